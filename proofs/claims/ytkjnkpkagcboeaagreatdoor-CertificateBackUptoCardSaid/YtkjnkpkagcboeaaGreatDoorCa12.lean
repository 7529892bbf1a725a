/- Walks: the program's variables as polynomials; products where one side has at most one term. -/
import Derived.Test.YtkjnkpkagcboeaaGreatDoorCa7
import Derived.Deep.LoopGhost
import Derived.Test.YtkjnkpkagcboeaaGreatDoorCa2
import Derived.Test.YtkjnkpkagcboeaaGreatDoorCa10
import Derived.Test.YtkjnkpkagcboeaaGreatDoorCa11
import Derived.Test.YtkjnkpkagcboeaaGreatDoorCa1
import Derived.Deep.CutRange
import Derived.Test.YtkjnkpkagcboeaaGreatDoorCa6
set_option linter.all false
set_option maxRecDepth 100000
set_option maxHeartbeats 4000000
namespace Go.Proofs.YtkjnkpkagcboeaaGreatDoor
open Go.RowKit
theorem mk_tms (ts:TypeId) (hu:Tryz.prog.underlying ts = some (.slice 57)) (n:Nat) (hn:n <= 1000000) (w:World) :
  ∃ cur:Array Value,cur.size = n * 4 /\ (Instr.makeSlice ts (.int .i64 0) (.int .i64 (n:Int))).run Tryz.prog w = .ok (.slice (some ⟨w.heap.size,0,none⟩) 0 n) (w.alloc (.cells cur 57)):=by
 obtain ⟨i,hi,hz,hsz,hby⟩:=info_parts infoTm;have:=run_makeSlice (w:=w) ts 57 i _ hu hi hz .i64 .i64 0 n (by omega) (by omega) (by rw [hsz]; simp; omega) (by rw [hby]; omega) (by omega);rw [hsz] at this;simp only [Int.toNat_zero,Int.toNat_natCast] at this;exact ⟨_,size_madeCells _ _,this⟩
theorem addP_stop {p q:List Tm} (h:p = [] \/ q = []):addP p q = p ++ q:=by
 rcases h with rfl | rfl
 · rw [addP_nil']; rfl
 · rw [addP_nil]; simp
theorem drop_cons {α:Type} {l:List α} {k:Nat} {x:α} (h:l[k]? = some x):l.drop k = x :: l.drop (k + 1):=by
 rw [List.drop_eq_getElem_cons (lt_of_get h)];rw [List.getElem?_eq_getElem (lt_of_get h)] at h;injection h with h
 rw [h]
theorem PolX.rest {X:Nat -> Prop} {w:World} {a:Option Addr} {c:Nat} {p:List Tm} (h:PolX X w a c p) (k:Nat) :
  ∃ l:List TQ,p.length - k = l.length /\ AllT X w l (p.drop k) /\ Rd X w (RowT (if c = k then a else a.map (·.add (k * 4))) (c - k) l):=by
 obtain ⟨l,h1,h2⟩:=h;refine ⟨l.drop k,by rw [List.length_drop,h2.1],h2.drop k,h1.imp fun V hR=>?_⟩;refine ⟨by have:=hR.1; rw [List.length_drop]; omega,by have:=hR.2.1; omega,fun j t ht=>?_⟩;rw [List.getElem?_drop] at ht;obtain ⟨b,off,rfl,hA⟩:=hR.2.2 (k + j) t ht;have hlt:=lt_of_get ht;have hc:=hR.1;rw [if_neg (by omega)];refine ⟨b,off + k * 4,by rw [Option.map_some,Addr.add_lit],?_⟩
 rwa [show off + k * 4 + j * 4 = off + (k + j) * 4 by omega]
theorem AllT.appN {X:Nat -> Prop} {w w':World} {a a':Option Addr} {c n:Nat} {p:List Tm} {m lo:List TQ} (h:AllT (Xr X a) w lo p) (hg:w.grownBy w' (Value.ownBlock (.slice a n c))) (ha:m = [] /\ a' = a /\ w' = w \/ ∃ g,a' = some ⟨g,0,none⟩ /\ (a = some ⟨g,0,none⟩ \/ g = w.heap.size)):AllT (Xr X a') w' lo p:=by
 rcases ha with ⟨_,rfl,rfl⟩ | ha
 · exact h
 · exact h.app hg ha
theorem slice_tm (ts:TypeId) (hu:Tryz.prog.underlying ts = some (.slice 57)) (a:Option Addr) (n c i:Nat) (hi:i <= n) (w:World) :
  (Instr.slice ts (.slice a n c) (some (.int .i64 (i:Int))) none none).run Tryz.prog w = .ok (.slice (if c = i then a else a.map (·.add (i * 4))) (n - i) (c - i)) w:=by
 obtain ⟨d,hd,hz,hsz,hby⟩:=info_parts infoTm;have he:Tryz.prog.elem ts = 57:=by unfold Program.elem; rw [hu]
 have:=run_slice_l (P:=Tryz.prog) (w:=w) ts a n c (by rw [hu,he]) .i64 i (by omega) (by omega);rw [this,he];simp [sizeOf,typeInfo,hd,hsz,sliced]
theorem push_tm {X:Nat -> Prop} {wr w4 w5 w6:World} {ra ra2:Option Addr} {rc n:Nat} {lo:List TQ} {po:List Tm} {s:TQ} {u:Tm} (hA:AllT (Xr X ra) wr lo po) (hb4:Below wr.heap.size wr w4) (h5:Below w4.heap.size w4 w5)
  (hsR:Rd (Xr X ra) w5 (s.R u)) (hg:w5.grownBy w6 (Value.ownBlock (.slice ra n rc))) (ha:∃ g,ra2 = some ⟨g,0,none⟩ /\ (ra = some ⟨g,0,none⟩ \/ g = w5.heap.size)):AllT (Xr X ra2) w6 (lo ++ [s]) (po ++ [u]) :=
 (((hA.call hb4).call h5).append (AllT.one hsR)).app hg ha
theorem lift_row {X:Nat -> Prop} {w wr:World} {ra:Option Addr} {R:World -> Prop} (h:Rd X w R) (ha:∀ g,ra = some g -> w.heap.size <= g.block) (hb:Below w.heap.size w wr):Rd (Xr X ra) wr R:=(h.row ha).call hb
theorem sum_rd {X:Nat -> Prop} {ra:Option Addr} {W:World} {x:QA} {q:Rat} {B T:Nat} {s:TQ} {u:Tm} (h:Kp (fun V=>QK 2001 V x q) B T W) (hX:∀ b,Xr X ra b -> b < B) (hs:Rd (Xr X ra) W (s.R u)):Rd (Xr X ra) W (TQ.R ⟨x,s.n,s.a,s.c⟩ (q,u.2)) :=
 ((Rd.kp h fun b hb=>.inl (hX b hb)).and hs).imp fun _ ⟨h1,h2⟩=>⟨h1.1,h2.2.1,h2.2.2⟩
theorem Xr_lt {X:Nat -> Prop} {w wr:World} {ra:Option Addr} {rc:Nat} {lo:List TQ} (hX:∀ b,X b -> b < w.heap.size) (ho:OwnT w.heap.size wr ra rc lo) (hb:w.heap.size <= wr.heap.size):∀ b,Xr X ra b -> b < wr.heap.size:=fun b h=>by
 rcases h with h | ⟨g,hg,rfl⟩
 · have:=hX b h; omega
 · exact (ho.lt hg).2
theorem merge_q (X:Nat -> Prop) (p q:List Tm) (a b:Option Addr) (ca cb:Nat) (w:World) (hX:∀ b,X b -> b < w.heap.size) (hp:PolX X w a ca p) (hq:PolX X w b cb q) (fp:FineP p) (fq:FineP q) :
  Calls Tryz.prog 164 #[.slice a p.length ca,.slice b q.length cb,.func (Fn.func 53) #[] #[],.func (Fn.func 165) #[] #[]] w (RetP X (addP p q) w):=by
 have lp:=hp.len; have lq:=hq.len;have l1:=fp.1; have l2:=fq.1;obtain ⟨cur,hcs,hmk⟩:=mk_tms 22 Tryz.underlying22 (p.length + q.length) (by omega) w;have how:OwnT w.heap.size (w.alloc (.cells cur 57)) (some ⟨w.heap.size,0,none⟩) (p.length + q.length) []:=World.ownsRow_made w cur _ (nlr _) (by unfold maxLen; omega) hcs;have hb0:Below w.heap.size w (w.alloc (.cells cur 57)):=by go_grown
 rw [Int.natCast_add] at hmk;obtain ⟨R,hR⟩:∃ R,addP p q = R:=⟨_,rfl⟩
 rw [hR];have HP:=Hd hp; have HQ:=Hd hq; have FP:=Hd fp.2; have FQ:=Hd fq.2; have HX:=Hd hX; have HR:=Hd hR;replace how:=Hd how;clear hp hq fp fq hX hR hcs;go_enter Tryz.func164,Tryz.ntmps164;go_wp2;obtain ⟨wo,rfl⟩:∃ wo:World,wo = w:=⟨_,rfl⟩
 go_loopg [9,10,11,12,13,14] (p.length + q.length) (fun m o qi qk _ _ _ wr=>∃ (i k:Nat) (lo:List TQ) (po:List Tm) (ra:Option Addr) (rc:Nat),Hid (i + k + m = p.length + q.length) /\ i <= p.length /\ k <= q.length /\ o = .slice ra lo.length rc /\ qi = .int .i64 i /\ qk = .int .i64 k /\ Hid (OwnT wo.heap.size wr ra rc lo) /\ Hid (AllT (Xr X ra) wr lo po) /\ Below wo.heap.size wo wr /\ Hid (po ++ addP (p.drop i) (q.drop k) = R) /\ Hid (lo.length <= i + k))
 case atStart=>exact ⟨0,0,[],[],some ⟨wo.heap.size,0,none⟩,p.length + q.length,by show _ = _; omega,by omega,by omega,rfl,rfl,rfl,how.out,AllT.nil,hb0,HR.out,nlr _⟩
 case round =>
  clear hmk how hb0;obtain ⟨i,k,lo,po,ra,rc,hm,hi,hk,rfl,rfl,rfl,ho,hA,hwr,hout,hll⟩:=hrel;have hro:Hid (∀ g,ra = some g -> wo.heap.size <= g.block):=Hd fun g hg=>(ho.out.lt hg).1
  by_cases h1:i < p.length
  ·
   by_cases h2:k < q.length
   ·
    obtain ⟨u,hu⟩:=get_of_lt h1; obtain ⟨v,hv⟩:=get_of_lt h2;obtain ⟨b1,o1,s,rfl,hs,hsR⟩:=HP.out.get hu;obtain ⟨b2,o2,t,rfl,ht,htR⟩:=HQ.out.get hv;have fu:=FP.out u (List.mem_of_getElem? hu);have fv:=FQ.out v (List.mem_of_getElem? hv);have ho2:=hout.out;rw [drop_cons hu,drop_cons hv] at ho2;have hdp:=Hd (drop_cons hu); have hdq:=Hd (drop_cons hv);have hsr:=lift_row hsR hro.out hwr;have htr:=lift_row htR hro.out hwr;have CL:=fun W (hW:Below wr.heap.size wr W)=>lexT_any s t u.2 v.2 W ((hsR.call (bth hwr hW)).now.2.1) ((htR.call (bth hwr hW)).now.2.1) (hsR.now.2.2) (htR.now.2.2)
    have CA:=fun W (hW:Below wr.heap.size wr W)=>added_q s t u.1 v.1 W ((hsR.call (bth hwr hW)).now.qk fu) ((htR.call (bth hwr hW)).now.qk fv)
    obtain ⟨c0,c1,c2,c3⟩:=hs;obtain ⟨d0,d1,d2,d3⟩:=ht;have k0:=held (held c0 wr hwr); have k1:=held (held c1 wr hwr); have k2:=held (held c2 wr hwr); have k3:=held (held c3 wr hwr);have y0:=held (held d0 wr hwr); have y1:=held (held d1 wr hwr); have y2:=held (held d2 wr hwr); have y3:=held (held d3 wr hwr);have s0:Below wr.heap.size wr wr.drew:=brf.drew;obtain ⟨L,hL⟩:∃ L,lexI u.2 v.2 = L:=⟨_,rfl⟩
    rw [hL] at CL;replace hL:=Hd hL; replace CL:=Hd CL; replace CA:=Hd CA; replace hsR:=Hd hsR; replace htR:=Hd htR; replace fu:=Hd fu; replace fv:=Hd fv; replace ho2:=Hd ho2; replace hsr:=Hd hsr; replace htr:=Hd htr;clear hu hv c0 c1 c2 c3 d0 d1 d2 d3 hout;go_wp2;refine wp_region_mix (S:=Below wr.heap.size wr) [(0,.q),(1,.q),(2,.q),(3,.q),(4,.q),(5,.q),(6,.q),(7,.q),(8,.q),(9,.t),(10,.p)] (by kernel_rfl) (by kernel_rfl) (by kernel_rfl) (fun d _ _ _ _ h=>by cases d <;> exact h) (s0) ?_
    iterate 9 (refine wpMix_q rfl rfl (fun K hK=>?_); apply Exists.intro; refine ⟨fun w' hw'=>?_,?_⟩; (focus (go_simp; try rfl)); go_simp; refine hK _ _ ?_; clear hK K)
    refine wpMix_t rfl rfl (fun K hK=>?_);go_simp;refine (CL.out _ s0).mono ?_;rintro r w4 ⟨rfl,hb4⟩;dsimp only;refine hK.out _ _ ?_;clear hK K
    iterate 1 (refine wpMix_p rfl rfl (fun K hK=>?_); apply Exists.intro; refine ⟨fun w'=>?_,?_⟩; (focus (go_simp; try rfl)); go_simp; refine hK _ _ ?_; clear hK K)
    refine wpMix_nil ?_;have s4:=bth s0 hb4;clear hb4 s0;have e0:=k0 w4 s4; have e1:=k1 w4 s4; have e2:=k2 w4 s4; have e3:=k3 w4 s4;have f0:=y0 w4 s4; have f1:=y1 w4 s4; have f2:=y2 w4 s4; have f3:=y3 w4 s4;clear k0 k1 k2 k3 y0 y1 y2 y3;by_cases g1:0 < L
    ·
     have ho3:=ho2.out;rw [addP_gt (by rw [hL.out]; exact g1)] at ho3;replace ho3:=Hd ho3;clear CA CL hsR htR fu fv htr ho2
     -- the element is copied
     have hb5:Below w4.heap.size w4 (w4.alloc (.cells #[.bool s.x.neg,.slice s.x.a s.x.n s.x.c,.slice s.x.b s.x.m s.x.d,.slice s.a s.n s.c] 57)):=by go_grown
     have howc:=((ho.out.below s4).alloc (.cells #[.bool s.x.neg,.slice s.x.a s.x.n s.x.c,.slice s.x.b s.x.m s.x.d,.slice s.a s.n s.c] 57))
     have hel:TQ.At s (w4.alloc (.cells #[.bool s.x.neg,.slice s.x.a s.x.n s.x.c,.slice s.x.b s.x.m s.x.d,.slice s.a s.n s.c] 57)) w4.heap.size 0:=⟨(Blk.new w4 57 #[.bool s.x.neg,.slice s.x.a s.x.n s.x.c,.slice s.x.b s.x.m s.x.d,.slice s.a s.n s.c]).cell 0,(Blk.new w4 57 #[.bool s.x.neg,.slice s.x.a s.x.n s.x.c,.slice s.x.b s.x.m s.x.d,.slice s.a s.n s.c]).cell 1,(Blk.new w4 57 #[.bool s.x.neg,.slice s.x.a s.x.n s.x.c,.slice s.x.b s.x.m s.x.d,.slice s.a s.n s.c]).cell 2,(Blk.new w4 57 #[.bool s.x.neg,.slice s.x.a s.x.n s.x.c,.slice s.x.b s.x.m s.x.d,.slice s.a s.n s.c]).cell 3⟩
     have hwo4:=bth hwr (bth s4 hb5);replace howc:=Hd howc; replace hel:=Hd hel;go_wp2_with (at_builtin; go_must (refine append_tm (B:=wo.heap.size) rfl (.tmp 66) (.tmp 71) 22 rfl Tryz.underlying22 ra rc rfl howc.out s w4.heap.size 1 rfl hel.out (lo ++ [s]) rfl (by have:=hll.out; simp; omega) (by have:=hwo4.size; simpa using this) ?_); intro ra2 rc2 w6 ho6 hg6 ha6);have hA6:=push_tm hA.out s4 hb5 ((hsr.out.call s4).call hb5) hg6 ha6;have hwo6:Below wo.heap.size wo w6:=below_append' hwo4 howc.out hg6;replace ho6:=Hd ho6; replace hA6:=Hd hA6;clear hg6 ha6 howc hel hb5 hwo4;go_wp2;go_roundg (gk - 1)
     case rel=>exact ⟨i + 1,k,lo ++ [s],po ++ [u],ra2,rc2,by have:=hm.out; show _ = _; omega,by omega,by omega,by simp,by go_num,rfl,ho6.out,hA6.out,hwo6,by rw [<- ho3.out,hdq.out]; show _ = _; simp,by have:=hll.out; show _ <= _; simp; omega⟩
     case measure=>have:=hm.out; omega
    ·
     by_cases g2:L < 0
     ·
      have ho3:=ho2.out;rw [addP_lt (by rw [hL.out]; exact g2)] at ho3;replace ho3:=Hd ho3;clear CA CL hsR htR fu fv hsr ho2
      -- the element is copied
      have hb5:Below w4.heap.size w4 (w4.alloc (.cells #[.bool t.x.neg,.slice t.x.a t.x.n t.x.c,.slice t.x.b t.x.m t.x.d,.slice t.a t.n t.c] 57)):=by go_grown
      have howc:=((ho.out.below s4).alloc (.cells #[.bool t.x.neg,.slice t.x.a t.x.n t.x.c,.slice t.x.b t.x.m t.x.d,.slice t.a t.n t.c] 57))
      have hel:TQ.At t (w4.alloc (.cells #[.bool t.x.neg,.slice t.x.a t.x.n t.x.c,.slice t.x.b t.x.m t.x.d,.slice t.a t.n t.c] 57)) w4.heap.size 0:=⟨(Blk.new w4 57 #[.bool t.x.neg,.slice t.x.a t.x.n t.x.c,.slice t.x.b t.x.m t.x.d,.slice t.a t.n t.c]).cell 0,(Blk.new w4 57 #[.bool t.x.neg,.slice t.x.a t.x.n t.x.c,.slice t.x.b t.x.m t.x.d,.slice t.a t.n t.c]).cell 1,(Blk.new w4 57 #[.bool t.x.neg,.slice t.x.a t.x.n t.x.c,.slice t.x.b t.x.m t.x.d,.slice t.a t.n t.c]).cell 2,(Blk.new w4 57 #[.bool t.x.neg,.slice t.x.a t.x.n t.x.c,.slice t.x.b t.x.m t.x.d,.slice t.a t.n t.c]).cell 3⟩
      have hwo4:=bth hwr (bth s4 hb5);replace howc:=Hd howc; replace hel:=Hd hel;go_wp2_with (at_builtin; go_must (refine append_tm (B:=wo.heap.size) rfl (.tmp 78) (.tmp 83) 22 rfl Tryz.underlying22 ra rc rfl howc.out t w4.heap.size 1 rfl hel.out (lo ++ [t]) rfl (by have:=hll.out; simp; omega) (by have:=hwo4.size; simpa using this) ?_); intro ra2 rc2 w6 ho6 hg6 ha6);have hA6:=push_tm hA.out s4 hb5 ((htr.out.call s4).call hb5) hg6 ha6;have hwo6:Below wo.heap.size wo w6:=below_append' hwo4 howc.out hg6;replace ho6:=Hd ho6; replace hA6:=Hd hA6;clear hg6 ha6 howc hel hb5 hwo4;go_wp2;go_roundg (gk - 1)
      case rel=>exact ⟨i,k + 1,lo ++ [t],po ++ [v],ra2,rc2,by have:=hm.out; show _ = _; omega,by omega,by omega,by simp,rfl,by go_num,ho6.out,hA6.out,hwo6,by rw [<- ho3.out,hdp.out]; show _ = _; simp,by have:=hll.out; show _ <= _; simp; omega⟩
      case measure=>have:=hm.out; omega
     ·
      have hL0:lexI u.2 v.2 = 0:=by rw [hL.out]; omega
      have hlx:=Hd (Xr_lt HX.out ho.out hwr.size);have j0:=held e0; have j1:=held e1; have j2:=held e2; have j3:=held e3;have n0:=held f0; have n1:=held f1; have n2:=held f2; have n3:=held f3;have s0:Below w4.heap.size w4 w4.drew:=brf.drew;replace hL0:=Hd hL0;clear CL hsR htR fu fv htr hdp hdq e0 e1 e2 e3 f0 f1 f2 f3;go_wp2;refine wp_region_tree (S:=Below w4.heap.size w4) (.q 0 (.q 1 (.q 2 (.q 3 (.q 4 (.q 5 (.q 6 (.q 7 (.q 8 (.two 9 (.q 10 (.q 11 (.q 12 (.l 13 (.l 14 (.p 15 .nil)))))) 13 (.l 9 (.q 10 (.q 11 (.q 12 (.l 14 (.p 15 .nil)))))))))))))))) [15] (by kernel_rfl) (by kernel_rfl) (by kernel_rfl) (fun d _ _ _ _ h=>by cases d <;> exact h) s0 ?_
      iterate 9 (refine wpMT_q rfl rfl (fun K hK=>?_); apply Exists.intro; refine ⟨fun w' hw'=>?_,?_⟩; (focus (go_simp; try rfl)); go_simp; refine hK _ _ ?_; clear hK K)
      refine wpMT_two ?_ ?_
      ·
       skip
       refine wpMT_l rfl rfl (fun K hK=>?_);go_simp;refine (CA.out _ (bth s4 s0)).mono ?_;rintro r w5 ⟨x,rfl,HK,hb5⟩;dsimp only;refine hK.out _ _ (bth s0 hb5) (fun _=>?_);clear hK K
       iterate 3 (refine wpMT_q rfl rfl (fun K hK=>?_); apply Exists.intro; refine ⟨fun w' hw'=>?_,?_⟩; (focus (go_simp; try rfl)); go_simp; refine hK _ _ ?_; clear hK K)
       have s5:Below w4.heap.size w4 w5:=bth s0 hb5;have sA:Below w4.heap.size w4 (w5.alloc (.cells #[.bool false,.slice none 0 0,.slice none 0 0,.slice none 0 0] 57)):=s5.alloc s5.size _;refine wpMT_l rfl rfl (fun K hK=>?_);go_simp;refine hK.out _ _ (sA) (fun _=>?_);clear hK K;have hzz:Blk (w5.alloc (.cells #[.bool false,.slice none 0 0,.slice none 0 0,.slice none 0 0] 57)) w5.heap.size 57 #[.bool false,.slice none 0 0,.slice none 0 0,.slice none 0 0]:=Blk.new w5 _ _;have z0:=hzz.cell 0; have z1:=hzz.cell 1; have z2:=hzz.cell 2; have z3:=hzz.cell 3;have x0:=hzz.frozen 0; have x1:=hzz.frozen 1; have x2:=hzz.frozen 2; have x3:=hzz.frozen 3;refine wpMT_l rfl rfl (fun K hK=>?_);go_simp;refine hK.out _ _ ((s5.alloc s5.size _)) (fun _=>?_);clear hK K
       iterate 1 (refine wpMT_p rfl rfl (fun K hK=>?_); apply Exists.intro; refine ⟨fun w'=>?_,?_⟩; (focus (go_simp; try rfl)); go_simp; refine hK _ _ ?_; clear hK K)
       refine wpMT_nil ?_;replace HK:=Hd (show Kp (fun V=>QK 2001 V x (u.1 + v.1)) w4.heap.size w5.heap.size w5 from HK);refine world_gen (fun W=>Blk W w5.heap.size 57 #[.bool x.neg,.slice x.a x.n x.c,.slice x.b x.m x.d,.slice s.a s.n s.c] /\ Kp (fun V=>QK 2001 V x (u.1 + v.1)) w4.heap.size w5.heap.size W /\ Below w4.heap.size w4 W) ⟨by ((with_reducible repeat first|assumption|(apply bF;focus omega)|apply bS|(apply bN;focus (simp;done))|apply bA|apply bD);all_goals rfl),by (with_reducible repeat first | exact HK.out | (refine Kp.setc ?_ ?_; focus omega) | refine Kp.alloc ?_ | refine Kp.drew ?_),s5.alloc s5.size _⟩ ?_;clear z0 z1 z2 z3 x0 x1 x2 x3 hzz sA;rintro wz ⟨hg,HK,sz⟩;obtain ⟨g,hge⟩:∃ g,g = w5.heap.size:=⟨_,rfl⟩
       rw [<- hge] at hg ⊢;clear hge;obtain ⟨sn,hsn⟩:∃ sn:TQ,sn = ⟨x,s.n,s.a,s.c⟩:=⟨_,rfl⟩
       have hRS:Rd (Xr X ra) wz (sn.R (u.1 + v.1,u.2)):=by rw [hsn]; exact sum_rd HK (fun b hb=>by have:=hlx.out b hb; have:=s4.size; omega) ((hsr.out.call s4).call sz)
       have z0:wz.cell? ⟨g,0,none⟩ = some (.bool sn.x.neg):=by rw [hsn]; exact hg.cell 0
       have z1:wz.cell? ⟨g,1,none⟩ = some (.slice sn.x.a sn.x.n sn.x.c):=by rw [hsn]; exact hg.cell 1
       have z2:wz.cell? ⟨g,2,none⟩ = some (.slice sn.x.b sn.x.m sn.x.d):=by rw [hsn]; exact hg.cell 2
       have z3:wz.cell? ⟨g,3,none⟩ = some (.slice sn.a sn.n sn.c):=by rw [hsn]; exact hg.cell 3
       have hgl:=hg.lt;replace hRS:=Hd hRS;replace hL0:=hL0.out;obtain ⟨nb,hnb⟩:∃ nb:Bool,(!decide (u.1 + v.1 = 0)) = nb:=⟨_,rfl⟩
       rw [hnb];clear hg HK hb5 s5 s0 j0 j1 j2 j3 n0 n1 n2 n3 CA hsn hL g1 g2
       cases nb
       ·
        have hz:u.1 + v.1 = 0:=by simpa using hnb
        have ho3:=ho2.out;rw [addP_gone hL0 hz] at ho3;replace ho3:=Hd ho3;have hA6:=hA.out.call (bth s4 sz);have ho6:=ho.out.below (bth s4 sz);have hwo6:=bth hwr (bth s4 sz);replace ho6:=Hd ho6; replace hA6:=Hd hA6;clear z0 z1 z2 z3 hRS ho2 hnb hz hL0;go_wp2;go_roundg (gk - 2)
        case rel=>exact ⟨i + 1,k + 1,lo,po,ra,rc,by have:=hm.out; show _ = _; omega,by omega,by omega,rfl,by go_num,by go_num,ho6.out,hA6.out,hwo6,ho3.out,by have:=hll.out; show _ <= _; omega⟩
        case measure=>have:=hm.out; omega
       ·
        have hz:¬ (u.1 + v.1 = 0):=by simpa using hnb
        have ho3:=ho2.out;rw [addP_eq hL0 hz] at ho3;replace ho3:=Hd ho3;have szz:=bth s4 sz;clear ho2 hnb hz hL0
        -- the element is copied
        have hb5:Below wz.heap.size wz (wz.alloc (.cells #[.bool sn.x.neg,.slice sn.x.a sn.x.n sn.x.c,.slice sn.x.b sn.x.m sn.x.d,.slice sn.a sn.n sn.c] 57)):=by go_grown
        have howc:=((ho.out.below szz).alloc (.cells #[.bool sn.x.neg,.slice sn.x.a sn.x.n sn.x.c,.slice sn.x.b sn.x.m sn.x.d,.slice sn.a sn.n sn.c] 57))
        have hel:TQ.At sn (wz.alloc (.cells #[.bool sn.x.neg,.slice sn.x.a sn.x.n sn.x.c,.slice sn.x.b sn.x.m sn.x.d,.slice sn.a sn.n sn.c] 57)) wz.heap.size 0:=⟨(Blk.new wz 57 #[.bool sn.x.neg,.slice sn.x.a sn.x.n sn.x.c,.slice sn.x.b sn.x.m sn.x.d,.slice sn.a sn.n sn.c]).cell 0,(Blk.new wz 57 #[.bool sn.x.neg,.slice sn.x.a sn.x.n sn.x.c,.slice sn.x.b sn.x.m sn.x.d,.slice sn.a sn.n sn.c]).cell 1,(Blk.new wz 57 #[.bool sn.x.neg,.slice sn.x.a sn.x.n sn.x.c,.slice sn.x.b sn.x.m sn.x.d,.slice sn.a sn.n sn.c]).cell 2,(Blk.new wz 57 #[.bool sn.x.neg,.slice sn.x.a sn.x.n sn.x.c,.slice sn.x.b sn.x.m sn.x.d,.slice sn.a sn.n sn.c]).cell 3⟩
        have hwo4:=bth hwr (bth szz hb5);replace howc:=Hd howc; replace hel:=Hd hel;go_wp2_with (at_builtin; go_must (refine append_tm (B:=wo.heap.size) rfl (.tmp 55) (.tmp 57) 22 rfl Tryz.underlying22 ra rc rfl howc.out sn wz.heap.size 1 rfl hel.out (lo ++ [sn]) rfl (by have:=hll.out; simp; omega) (by have:=hwo4.size; simpa using this) ?_); intro ra2 rc2 w6 ho6 hg6 ha6);have hA6:=push_tm hA.out szz hb5 (hRS.out.call hb5) hg6 ha6;have hwo6:Below wo.heap.size wo w6:=below_append' hwo4 howc.out hg6;replace ho6:=Hd ho6; replace hA6:=Hd hA6;clear hg6 ha6 howc hel hb5 hwo4;go_wp2;go_roundg (gk - 2)
        case rel=>exact ⟨i + 1,k + 1,lo ++ [_],po ++ [_],ra2,rc2,by have:=hm.out; show _ = _; omega,by omega,by omega,by simp,by go_num,by go_num,ho6.out,hA6.out,hwo6,by rw [<- ho3.out]; show _ = _; simp,by have:=hll.out; show _ <= _; simp; omega⟩
        case measure=>have:=hm.out; omega
      ·
       skip
       have sA:Below w4.heap.size w4 (w4.alloc (.cells #[.bool false,.slice none 0 0,.slice none 0 0,.slice none 0 0] 57)).drew:=(brf.alloc (nlr _) _).drew;refine wpMT_l rfl rfl (fun K hK=>?_);go_simp;refine hK.out _ _ sA (fun _=>?_);clear hK K;refine wpMT_l rfl rfl (fun K hK=>?_);go_simp;refine (CA.out _ (bth s4 sA)).mono ?_;rintro r w5 ⟨x,rfl,HK,hb5⟩;dsimp only;refine hK.out _ _ (bth sA hb5) (fun _=>?_);clear hK K;have s5:=bth sA hb5;have hle4:w4.heap.size <= w4.heap.size:=nlr _
       iterate 3 (refine wpMT_q rfl rfl (fun K hK=>?_); apply Exists.intro; refine ⟨fun w' hw'=>?_,?_⟩; (focus (go_simp; try rfl)); go_simp; refine hK _ _ ?_; clear hK K)
       have hzz:Blk w5 w4.heap.size 57 #[.bool false,.slice none 0 0,.slice none 0 0,.slice none 0 0]:=(show Blk (w4.alloc (.cells #[.bool false,.slice none 0 0,.slice none 0 0,.slice none 0 0] 57)).drew w4.heap.size 57 #[.bool false,.slice none 0 0,.slice none 0 0,.slice none 0 0] from Blk.new w4 _ _).below' hb5;have z0:=hzz.cell 0; have z1:=hzz.cell 1; have z2:=hzz.cell 2; have z3:=hzz.cell 3;have x0:=hzz.frozen 0; have x1:=hzz.frozen 1; have x2:=hzz.frozen 2; have x3:=hzz.frozen 3;have hle:w4.heap.size < (w4.alloc (.cells #[.bool false,.slice none 0 0,.slice none 0 0,.slice none 0 0] 57)).drew.heap.size:=by simp
       refine wpMT_l rfl rfl (fun K hK=>?_);go_simp;refine hK.out _ _ (((((s5.setCell hle4 _).setCell hle4 _).setCell hle4 _).setCell hle4 _)) (fun _=>?_);clear hK K
       iterate 1 (refine wpMT_p rfl rfl (fun K hK=>?_); apply Exists.intro; refine ⟨fun w'=>?_,?_⟩; (focus (go_simp; try rfl)); go_simp; refine hK _ _ ?_; clear hK K)
       refine wpMT_nil ?_;replace HK:=Hd (Kp.broad (B':=w4.heap.size + 1) HK (by simp) (nlr _));refine world_gen (fun W=>Blk W w4.heap.size 57 #[.bool x.neg,.slice x.a x.n x.c,.slice x.b x.m x.d,.slice s.a s.n s.c] /\ Kp (fun V=>QK 2001 V x (u.1 + v.1)) (w4.heap.size + 1) w5.heap.size W /\ Below w4.heap.size w4 W) ⟨by ((with_reducible repeat first|assumption|(apply bF;focus omega)|apply bS|(apply bN;focus (simp;done))|apply bA|apply bD);all_goals rfl),by (with_reducible repeat first | exact HK.out | (refine Kp.setc ?_ ?_; focus omega) | refine Kp.alloc ?_ | refine Kp.drew ?_),((((s5.setCell hle4 _).setCell hle4 _).setCell hle4 _).setCell hle4 _)⟩ ?_;clear z0 z1 z2 z3 x0 x1 x2 x3 hzz sA hle;rintro wz ⟨hg,HK,sz⟩;replace HK:=HK.broad (B':=w4.heap.size + 1) (nlr _) (nlr _);obtain ⟨g,hge⟩:∃ g,g = w4.heap.size:=⟨_,rfl⟩
       rw [<- hge] at hg ⊢;clear hge;obtain ⟨sn,hsn⟩:∃ sn:TQ,sn = ⟨x,s.n,s.a,s.c⟩:=⟨_,rfl⟩
       have hRS:Rd (Xr X ra) wz (sn.R (u.1 + v.1,u.2)):=by rw [hsn]; exact sum_rd HK (fun b hb=>by have:=hlx.out b hb; have:=s4.size; omega) ((hsr.out.call s4).call sz)
       have z0:wz.cell? ⟨g,0,none⟩ = some (.bool sn.x.neg):=by rw [hsn]; exact hg.cell 0
       have z1:wz.cell? ⟨g,1,none⟩ = some (.slice sn.x.a sn.x.n sn.x.c):=by rw [hsn]; exact hg.cell 1
       have z2:wz.cell? ⟨g,2,none⟩ = some (.slice sn.x.b sn.x.m sn.x.d):=by rw [hsn]; exact hg.cell 2
       have z3:wz.cell? ⟨g,3,none⟩ = some (.slice sn.a sn.n sn.c):=by rw [hsn]; exact hg.cell 3
       have hgl:=hg.lt;replace hRS:=Hd hRS;replace hL0:=hL0.out;obtain ⟨nb,hnb⟩:∃ nb:Bool,(!decide (u.1 + v.1 = 0)) = nb:=⟨_,rfl⟩
       rw [hnb];clear hg HK hb5 s5 s0 j0 j1 j2 j3 n0 n1 n2 n3 CA hsn hL g1 g2
       cases nb
       ·
        have hz:u.1 + v.1 = 0:=by simpa using hnb
        have ho3:=ho2.out;rw [addP_gone hL0 hz] at ho3;replace ho3:=Hd ho3;have hA6:=hA.out.call (bth s4 sz);have ho6:=ho.out.below (bth s4 sz);have hwo6:=bth hwr (bth s4 sz);replace ho6:=Hd ho6; replace hA6:=Hd hA6;clear z0 z1 z2 z3 hRS ho2 hnb hz hL0;go_wp2;go_roundg (gk - 2)
        case rel=>exact ⟨i + 1,k + 1,lo,po,ra,rc,by have:=hm.out; show _ = _; omega,by omega,by omega,rfl,by go_num,by go_num,ho6.out,hA6.out,hwo6,ho3.out,by have:=hll.out; show _ <= _; omega⟩
        case measure=>have:=hm.out; omega
       ·
        have hz:¬ (u.1 + v.1 = 0):=by simpa using hnb
        have ho3:=ho2.out;rw [addP_eq hL0 hz] at ho3;replace ho3:=Hd ho3;have szz:=bth s4 sz;clear ho2 hnb hz hL0
        -- the element is copied
        have hb5:Below wz.heap.size wz (wz.alloc (.cells #[.bool sn.x.neg,.slice sn.x.a sn.x.n sn.x.c,.slice sn.x.b sn.x.m sn.x.d,.slice sn.a sn.n sn.c] 57)):=by go_grown
        have howc:=((ho.out.below szz).alloc (.cells #[.bool sn.x.neg,.slice sn.x.a sn.x.n sn.x.c,.slice sn.x.b sn.x.m sn.x.d,.slice sn.a sn.n sn.c] 57))
        have hel:TQ.At sn (wz.alloc (.cells #[.bool sn.x.neg,.slice sn.x.a sn.x.n sn.x.c,.slice sn.x.b sn.x.m sn.x.d,.slice sn.a sn.n sn.c] 57)) wz.heap.size 0:=⟨(Blk.new wz 57 #[.bool sn.x.neg,.slice sn.x.a sn.x.n sn.x.c,.slice sn.x.b sn.x.m sn.x.d,.slice sn.a sn.n sn.c]).cell 0,(Blk.new wz 57 #[.bool sn.x.neg,.slice sn.x.a sn.x.n sn.x.c,.slice sn.x.b sn.x.m sn.x.d,.slice sn.a sn.n sn.c]).cell 1,(Blk.new wz 57 #[.bool sn.x.neg,.slice sn.x.a sn.x.n sn.x.c,.slice sn.x.b sn.x.m sn.x.d,.slice sn.a sn.n sn.c]).cell 2,(Blk.new wz 57 #[.bool sn.x.neg,.slice sn.x.a sn.x.n sn.x.c,.slice sn.x.b sn.x.m sn.x.d,.slice sn.a sn.n sn.c]).cell 3⟩
        have hwo4:=bth hwr (bth szz hb5);replace howc:=Hd howc; replace hel:=Hd hel;go_wp2_with (at_builtin; go_must (refine append_tm (B:=wo.heap.size) rfl (.tmp 55) (.tmp 57) 22 rfl Tryz.underlying22 ra rc rfl howc.out sn wz.heap.size 1 rfl hel.out (lo ++ [sn]) rfl (by have:=hll.out; simp; omega) (by have:=hwo4.size; simpa using this) ?_); intro ra2 rc2 w6 ho6 hg6 ha6);have hA6:=push_tm hA.out szz hb5 (hRS.out.call hb5) hg6 ha6;have hwo6:Below wo.heap.size wo w6:=below_append' hwo4 howc.out hg6;replace ho6:=Hd ho6; replace hA6:=Hd hA6;clear hg6 ha6 howc hel hb5 hwo4;go_wp2;go_roundg (gk - 2)
        case rel=>exact ⟨i + 1,k + 1,lo ++ [_],po ++ [_],ra2,rc2,by have:=hm.out; show _ = _; omega,by omega,by omega,by simp,by go_num,by go_num,ho6.out,hA6.out,hwo6,by rw [<- ho3.out]; show _ = _; simp,by have:=hll.out; show _ <= _; simp; omega⟩
        case measure=>have:=hm.out; omega
   ·
    have ho3:=hout.out;rw [addP_stop (.inr (List.drop_eq_nil_of_le (by omega)))] at ho3;replace ho3:=Hd ho3;clear hout;obtain ⟨l1,hn1,hA1,hR1⟩:=HP.out.rest i;obtain ⟨l2,hn2,hA2,hR2⟩:=HQ.out.rest k;have hs1:=fun W=>slice_tm 22 Tryz.underlying22 a p.length ca i hi W
    have hs2:=fun W=>slice_tm 22 Tryz.underlying22 b q.length cb k hk W
    rw [hn1] at hs1; rw [hn2] at hs2;obtain ⟨a1,ha1⟩:∃ x,(if ca = i then a else a.map (·.add (i * 4))) = x:=⟨_,rfl⟩
    obtain ⟨a2,ha2⟩:∃ x,(if cb = k then b else b.map (·.add (k * 4))) = x:=⟨_,rfl⟩
    obtain ⟨c1,hc1⟩:∃ x,ca - i = x:=⟨_,rfl⟩
    obtain ⟨c2,hc2⟩:∃ x,cb - k = x:=⟨_,rfl⟩
    rw [ha1,hc1] at hs1 hR1; rw [ha2,hc2] at hs2 hR2;have hB1:=lift_row hR1 hro.out hwr;have hlen1:(lo ++ l1).length <= 16777216:=by have:=hll.out; rw [List.length_append,<- hn1]; omega
    have hlen2:(lo ++ l1 ++ l2).length <= 16777216:=by have:=hll.out; rw [List.length_append,List.length_append,<- hn1,<- hn2]; omega
    have hAA:AllT X wo (l1 ++ l2) (p.drop i ++ q.drop k):=hA1.append hA2;have hAr:=(hA.out.append (hA1.map (Y:=Xr X ra) (w':=wr) fun _ _ h=>lift_row h hro.out hwr))
    replace hn1:=Hd hn1; replace hn2:=Hd hn2; replace hA1:=Hd hA1; replace hA2:=Hd hA2; replace hR1:=Hd hR1; replace hR2:=Hd hR2; replace hB1:=Hd hB1; replace hlen1:=Hd hlen1; replace hlen2:=Hd hlen2; replace hAA:=Hd hAA; replace hAr:=Hd hAr;clear ha1 ha2 hc1 hc2;obtain ⟨lx,hlx⟩:∃ lx,lx = lo ++ l1:=⟨_,rfl⟩
    obtain ⟨ly,hly⟩:∃ ly,ly = lo ++ l1 ++ l2:=⟨_,rfl⟩
    rw [<- hly] at hlen2;rw [<- hlx] at hlen1 hAr hly;replace hlx:=Hd hlx; replace hly:=Hd hly;go_wp2_with (first
     | (at_builtin
        refine append_tms (B:=wo.heap.size) rfl (.tmp 87) (.tmp 90) 22 rfl Tryz.underlying22 ra rc rfl ho.out l1 a1 _ c1 rfl rfl hB1.out.now lx hlx.out hlen1.out hwr.size ?_;intro ra2 rc2 w5 ho5 hg5 ha5;have hA5:=AllT.appN hAr.out hg5 ha5;have hw5:=below_append' hwr ho.out hg5;have hB2:=lift_row (ra:=ra2) hR2.out (fun g hg=>(ho5.lt hg).1) hw5;replace hA5:=Hd hA5; replace ho5:=Hd ho5; replace hB2:=Hd hB2;clear hg5 ha5)
     | (at_builtin
        go_must (refine append_tms (B:=wo.heap.size) rfl (.tmp 92) (.tmp 95) 22 rfl Tryz.underlying22 ra2 rc2 rfl ho5.out l2 a2 _ c2 rfl rfl hB2.out.now ly hly.out hlen2.out hw5.size ?_)
        intro ra3 rc3 w6 ho6 hg6 ha6))
    have hA6:=AllT.appN (hA5.out.append (hA2.out.map (Y:=Xr X ra2) (w':=w5) fun _ _ h=>lift_row h (fun g hg=>(ho5.out.lt hg).1) hw5)) hg6 ha6;have hw6:=below_append' hw5 ho5.out hg6;rw [<- hly.out] at hA6;have hP6:=ho6.pol hA6 HX.out;have hRl:ly.length = R.length:=by rw [hA6.1,<- ho3.out]; simp
    go_ret;refine ⟨ra3,rc3,by rw [hRl]; rfl,?_,hw6⟩;rw [<- ho3.out,<- List.append_assoc];exact hP6
  ·
   have ho3:=hout.out;rw [addP_stop (.inl (List.drop_eq_nil_of_le (by omega)))] at ho3;replace ho3:=Hd ho3;clear hout;obtain ⟨l1,hn1,hA1,hR1⟩:=HP.out.rest i;obtain ⟨l2,hn2,hA2,hR2⟩:=HQ.out.rest k;have hs1:=fun W=>slice_tm 22 Tryz.underlying22 a p.length ca i hi W
   have hs2:=fun W=>slice_tm 22 Tryz.underlying22 b q.length cb k hk W
   rw [hn1] at hs1; rw [hn2] at hs2;obtain ⟨a1,ha1⟩:∃ x,(if ca = i then a else a.map (·.add (i * 4))) = x:=⟨_,rfl⟩
   obtain ⟨a2,ha2⟩:∃ x,(if cb = k then b else b.map (·.add (k * 4))) = x:=⟨_,rfl⟩
   obtain ⟨c1,hc1⟩:∃ x,ca - i = x:=⟨_,rfl⟩
   obtain ⟨c2,hc2⟩:∃ x,cb - k = x:=⟨_,rfl⟩
   rw [ha1,hc1] at hs1 hR1; rw [ha2,hc2] at hs2 hR2;have hB1:=lift_row hR1 hro.out hwr;have hlen1:(lo ++ l1).length <= 16777216:=by have:=hll.out; rw [List.length_append,<- hn1]; omega
   have hlen2:(lo ++ l1 ++ l2).length <= 16777216:=by have:=hll.out; rw [List.length_append,List.length_append,<- hn1,<- hn2]; omega
   have hAA:AllT X wo (l1 ++ l2) (p.drop i ++ q.drop k):=hA1.append hA2;have hAr:=(hA.out.append (hA1.map (Y:=Xr X ra) (w':=wr) fun _ _ h=>lift_row h hro.out hwr))
   replace hn1:=Hd hn1; replace hn2:=Hd hn2; replace hA1:=Hd hA1; replace hA2:=Hd hA2; replace hR1:=Hd hR1; replace hR2:=Hd hR2; replace hB1:=Hd hB1; replace hlen1:=Hd hlen1; replace hlen2:=Hd hlen2; replace hAA:=Hd hAA; replace hAr:=Hd hAr;clear ha1 ha2 hc1 hc2;obtain ⟨lx,hlx⟩:∃ lx,lx = lo ++ l1:=⟨_,rfl⟩
   obtain ⟨ly,hly⟩:∃ ly,ly = lo ++ l1 ++ l2:=⟨_,rfl⟩
   rw [<- hly] at hlen2;rw [<- hlx] at hlen1 hAr hly;replace hlx:=Hd hlx; replace hly:=Hd hly;go_wp2_with (first
    | (at_builtin
       refine append_tms (B:=wo.heap.size) rfl (.tmp 87) (.tmp 90) 22 rfl Tryz.underlying22 ra rc rfl ho.out l1 a1 _ c1 rfl rfl hB1.out.now lx hlx.out hlen1.out hwr.size ?_;intro ra2 rc2 w5 ho5 hg5 ha5;have hA5:=AllT.appN hAr.out hg5 ha5;have hw5:=below_append' hwr ho.out hg5;have hB2:=lift_row (ra:=ra2) hR2.out (fun g hg=>(ho5.lt hg).1) hw5;replace hA5:=Hd hA5; replace ho5:=Hd ho5; replace hB2:=Hd hB2;clear hg5 ha5)
    | (at_builtin
       go_must (refine append_tms (B:=wo.heap.size) rfl (.tmp 92) (.tmp 95) 22 rfl Tryz.underlying22 ra2 rc2 rfl ho5.out l2 a2 _ c2 rfl rfl hB2.out.now ly hly.out hlen2.out hw5.size ?_)
       intro ra3 rc3 w6 ho6 hg6 ha6))
   have hA6:=AllT.appN (hA5.out.append (hA2.out.map (Y:=Xr X ra2) (w':=w5) fun _ _ h=>lift_row h (fun g hg=>(ho5.out.lt hg).1) hw5)) hg6 ha6;have hw6:=below_append' hw5 ho5.out hg6;rw [<- hly.out] at hA6;have hP6:=ho6.pol hA6 HX.out;have hRl:ly.length = R.length:=by rw [hA6.1,<- ho3.out]; simp
   go_ret;refine ⟨ra3,rc3,by rw [hRl]; rfl,?_,hw6⟩;rw [<- ho3.out,<- List.append_assoc];exact hP6
theorem addS_p (X:Nat -> Prop) (p q:List Tm) (a b:Option Addr) (ca cb:Nat) (w:World) (hX:∀ b,X b -> b < w.heap.size) (hp:PolX X w a ca p) (hq:PolX X w b cb q) (fp:FineP p) (fq:FineP q) :
  Calls Tryz.prog 127 #[.slice a p.length ca,.slice b q.length cb] w (RetP X (addP p q) w):=by
 have CM:=merge_q X p q a b ca cb w hX hp hq fp fq;revert CM;generalize addP p q = R;intro CM;replace CM:=Hd CM;clear hX hp hq fp fq;go_enter Tryz.func127,Tryz.ntmps127;go_wp2_with fail;refine CM.out.mono ?_;rintro e w1 ⟨a1,c1,rfl,hP,hb⟩;go_wp2;go_ret;exact ⟨a1,c1,rfl,hP,hb⟩
theorem At.new {w:World} {t:TQ}:t.At (w.alloc (.cells #[.bool t.x.neg,.slice t.x.a t.x.n t.x.c,.slice t.x.b t.x.m t.x.d,.slice t.a t.n t.c] 57)) w.heap.size 0:=⟨(Blk.new w 57 #[.bool t.x.neg,.slice t.x.a t.x.n t.x.c,.slice t.x.b t.x.m t.x.d,.slice t.a t.n t.c]).cell 0,(Blk.new w 57 #[.bool t.x.neg,.slice t.x.a t.x.n t.x.c,.slice t.x.b t.x.m t.x.d,.slice t.a t.n t.c]).cell 1,(Blk.new w 57 #[.bool t.x.neg,.slice t.x.a t.x.n t.x.c,.slice t.x.b t.x.m t.x.d,.slice t.a t.n t.c]).cell 2,(Blk.new w 57 #[.bool t.x.neg,.slice t.x.a t.x.n t.x.c,.slice t.x.b t.x.m t.x.d,.slice t.a t.n t.c]).cell 3⟩
theorem own_fr {α:Type} {f:α -> List Value} {sz:Nat} {ty:TypeId} {B g:Nat} {w w':World} {a:Option Addr} {c:Nat} {l:List α} (h:Own f sz ty B w a c l) (k:Fg g w w') (hg:g < B):Own f sz ty B w' a c l :=
 h.grown (row:=some g) ⟨k.os,k.tape,k.output,k.size,fun i hi hne=>k.block i hi (fun e=>hne (by rw [e]))⟩ (fun q hq e=>by have:=(h.lt hq).1; injection e with e; omega)
theorem negS_q (x:QA) (q:Rat) (k:Nat) (w:World) (H:QK k w x q) (hk:k <= 100000):Calls Tryz.prog 72 #[.agg #[.bool x.neg,.slice x.a x.n x.c,.slice x.b x.m x.d]] w (RetQK k (-q) w):=by
 have hz:=H.2;obtain ⟨s1,n1,a1,c1,m1,b1,d1⟩:=x;obtain ⟨⟨e1,e2,e3,r1,r2⟩,z1⟩:=H;dsimp only at e1 e2 e3 r1 r2 ⊢;subst e1 e2 e3;have l1:=qsz_num q;have l2:=qsz_den q;have:=qneg_any (decide (q.num < 0)) (limbs q.num.natAbs) (limbs q.den) q.num.natAbs q.den a1 b1 c1 d1 w r1 r2 (val_limbs _) (val_limbs _) (by omega) (by omega) q.den_nz;refine this.mono fun e w' h=>retF_q (by rw [qsz_neg]; exact hz) ?_
 have e1:lowest (!(decide (q.num < 0))) q.num.natAbs q.den = trip (-q):=by
  rw [lowest_qv];congr 1;rw [qv_neg,qv_parts]
 rwa [e1] at h
def RetS (X:Nat -> Prop) (G:Got (List Tm)) (g mb:Nat) (s:ByteArray) (w:World) (e:Ending) (w':World):Prop:=∃ ra n rc,e = .returned (.slice ra n rc) /\ (∀ L r,G = .ok L r -> n = L.length /\ PolX X w' ra rc L /\ ∀ u ∈ L,qsz u.1 <= 1000) /\ StG w' g s mb G /\ Fg g w w'
theorem StE.alloc2 {w:World} {g mb k:Nat} {s:ByteArray} {e:Int} (h:StE w g s mb k e) (o:Obj):StE (w.alloc o) g s mb k e:=by obtain ⟨a,h1,h2,h3,h4⟩:=h; exact ⟨a,h1,h2,h3,bA h4⟩
theorem rdA_grown {w w' W0:World} {g mb a B:Nat} {s:ByteArray} {e b:Int} {ra:Option Addr} {rc:Nat} {lo:List TQ} (h:RdA w g s mb a e b) (ho:OwnT B W0 ra rc lo) (hg:g < B) (hgr:w.grownBy w' (Value.ownBlock (.slice ra lo.length rc))):RdA w' g s mb a e b:=Blk.under h ho hg hgr
theorem stE_grown {w w' W0:World} {g mb k B:Nat} {s:ByteArray} {e:Int} {ra:Option Addr} {rc:Nat} {lo:List TQ} (h:StE w g s mb k e) (ho:OwnT B W0 ra rc lo) (hg:g < B) (hgr:w.grownBy w' (Value.ownBlock (.slice ra lo.length rc))):StE w' g s mb k e:=by obtain ⟨a,h1,h2,h3,h4⟩:=h; exact ⟨a,h1,h2,h3,rdA_grown h4 ho hg hgr⟩
theorem rd_wide {X:Nat -> Prop} {w:World} {R:World -> Prop} (h:Rd X w R):Rd (fun b=>X b \/ b = w.heap.size) w R:=h.more fun b hb=>hb.elim .inl fun e=>.inr (by omega)
theorem numG_le {l d r:List UInt8} (h:numG l = .ok d r):r.length <= l.length:=by
 unfold numG at h
 split at h
 · exact absurd h fun e=>lost_ok e
 ·
  split at h
  · cases h
  · injection h with h1 h2; subst h2; rw [List.length_drop]; omega
theorem cofG_le {l r:List UInt8} {q:Rat} (h:cofG l = .ok q r):r.length <= l.length:=by
 unfold cofG at h;obtain ⟨d,r1,h1,h2⟩:=bnd_ok h;have e1:=numG_le h1
 split at h2
 ·
  obtain ⟨d2,r2,h3,h4⟩:=bnd_ok h2;have e2:=numG_le h3
  split at h4
  · cases h4
  · injection h4 with h5 h6; subst h6; rw [List.length_drop] at e2; omega
 · injection h2 with h3 h4; subst h4; exact e1
theorem powG_le {names:List ByteArray} {l r:List UInt8} {p:Nat × Int} (h:powG names l = .ok p r):r.length <= l.length:=by
 unfold powG at h;obtain ⟨v,r1,h1,h2⟩:=bnd_ok h;have e1:=namG_less h1
 split at h2
 ·
  obtain ⟨d2,r2,h3,h4⟩:=bnd_ok h2;have e2:=numG_le h3
  split at h4
  · cases h4
  · injection h4 with h5 h6; subst h6; rw [List.length_drop] at e2; omega
 · injection h2 with h3 h4; subst h4; omega
theorem proG_le {names:List ByteArray} {F:Nat}:∀ {n:Nat} {m m':List Int} {l r:List UInt8},proG names F n m l = .ok m' r -> r.length <= l.length
 | 0,_,_,_,_,h=>by cases h
 | n + 1,m,m',l,r,h=>by
  rw [proG] at h;obtain ⟨p,r1,h1,h2⟩:=bnd_ok h;have e1:=powG_le h1
  split at h2
  · cases h2
  ·
   split at h2
   · have e2:=proG_le h2; rw [List.length_drop] at e2; omega
   · injection h2 with h3 h4; subst h4; exact e1
theorem monG_le {names:List ByteArray} {F:Nat} {q:Rat} {l r:List UInt8} {u:Tm} (h:monG names F q l = .ok u r):r.length <= l.length:=by
 unfold monG at h;obtain ⟨p,r1,h1,h2⟩:=bnd_ok h;injection h2 with h3 h4; subst h4; exact proG_le h1
theorem terG_le {names:List ByteArray} {l r:List UInt8} {u:Tm} (h:terG names l = .ok u r):r.length <= l.length:=by
 unfold terG at h
 split at h
 · exact monG_le h
 ·
  obtain ⟨q,r1,h1,h2⟩:=bnd_ok h;have e1:=cofG_le h1
  split at h2
  · have e2:=monG_le h2; rw [List.length_drop] at e2; omega
  · injection h2 with h3 h4; subst h4; exact e1
theorem sum_any (X:Nat -> Prop) (g mb a nm0:Nat) (s:ByteArray) (names:List ByteArray) (w:World) (hX:∀ b,X b -> b < w.heap.size) (hXg:∀ b,b = g -> X b) (h:RdA w g s mb 0 0 0) (hs:s.size <= 281474976710656) (hm:OwnV w mb nm0 (names.take 64)) (hne:mb ≠ g) (he:ErrW w) (hge:Tryz.lays172_ren.g 16 ≠ g) :
  Calls Tryz.prog 34 #[.pointer (some ⟨g,0,none⟩)] w (RetS X (reaG names s.data.toList) g mb s w):=by
 replace hX:=Hd hX; replace hXg:=Hd hXg;have HM:=Hd (fun W (hW:Fg g w W)=>hm.fr hW hne);have HE:=Hd (fun W (hW:Fg g w W)=>he.fr hW hge);obtain ⟨SG,hSG⟩:∃ G,reaG names s.data.toList = G:=⟨_,rfl⟩
 rw [hSG];unfold reaG at hSG;rw [<- tl_all] at hSG;have hlg:=Hd h.lt;have CP:=peek_any g mb 0 s 0 0 45 w h (by omega) hs;have hst:=nxtB_is (tl s 0) 45 (z:=45) rfl;obtain ⟨bp,hbp⟩:∃ b,nxtB (tl s 0) 45 = b:=⟨_,rfl⟩
 rw [hbp] at CP hst;have H:=Hd h;replace hbp:=Hd hbp; replace CP:=Hd CP; replace hst:=Hd hst;clear h hm he;go_enter Tryz.func34,Tryz.ntmps34;go_wp2_with fail;refine CP.out.mono ?_;rintro e w0 ⟨rfl,hb0⟩;have h0:=H.out.below hb0;have hf0:Fg g w w0:=Fr.below hb0;clear CP H hb0
 go_upto_if 8 with fail
 go_cut [] from 9 to 15 (fun wc=>∃ p0:Nat,Hid (p0 <= s.size) /\ Hid (RdA wc g s mb p0 0 0) /\ Hid (Fg g w wc) /\ Hid (SG = sumG names ((tl s 0).length + 1) bp [] (tl s p0)) /\ Hid ((tl s p0).length < (tl s 0).length + 1))
 case first =>
  cases bp
  ·
   have h45:¬ (tl s 0)[0]? = some 45:=by have:=hst.out; simpa using this.symm
   rw [if_neg h45] at hSG;have hS0:=Hd (show SG = sumG names ((tl s 0).length + 1) false [] (tl s 0) from hSG.symm);have h0':=Hd h0; have hf0':=Hd hf0;clear h45 hSG h0 hf0;go_wp2
   go_meet
   case rel=>exact ⟨0,Nat.zero_le _,h0'.out,hf0'.out,hS0.out,Nat.lt_succ_self _⟩
  ·
   have h45:(tl s 0)[0]? = some 45:=by have:=hst.out; simpa using this.symm
   have hlt0:0 < s.size:=by
    apply Nat.lt_of_not_le;intro hle;rw [tl_end hle] at h45
    cases h45
   rw [if_pos h45,tl_drop] at hSG;have z0:=Blk.cell h0 0; have z1:=Blk.cell h0 1; have z2:=Blk.cell h0 2; have z3:=Blk.cell h0 3; have z4:=Blk.cell h0 4;have hl:=h0.lt;have f1:=Blk.frozen h0 1;have hR1:=Hd (h0.set1 1);have hf1:=Hd (hf0.setc (g:=g) (i:=1) (u:=.int .i64 ((1:Nat):Int)) (.inl rfl));have hS0:=Hd (show SG = sumG names ((tl s 0).length + 1) true [] (tl s 1) from hSG.symm);replace hlt0:=Hd hlt0;clear h0 hf0 h45 hSG;go_wp2
   go_meet
   case rel=>exact ⟨1,hlt0.out,hR1.out,hf1.out,hS0.out,by show (tl s 1).length < _; rw [tl_len,tl_len]; have:=hlt0.out; omega⟩
 case rest =>
  clear h0 hf0 hSG hst;obtain ⟨p0,hp0s,h0,hf0,hS0,hfu⟩:=hcut;go_wp2
  go_loopg [3,4,5] (s.size + 1) (fun gk o ngv _ wr=>∃ (p f:Nat) (ng:Bool) (acc:List Tm) (lo:List TQ) (ra:Option Addr) (rc:Nat),o = .slice ra lo.length rc /\ ngv = .bool ng /\ Hid (p <= s.size) /\ Hid (s.size - p < gk) /\ Hid ((tl s p).length < f) /\ Hid (RdA wr g s mb p 0 0) /\ Hid (OwnT w.heap.size wr ra rc lo) /\ Hid (AllT (Xr X ra) wr lo acc) /\
   Hid (lo.length <= 4000 /\ acc.length = lo.length /\ ∀ u ∈ acc,qsz u.1 <= 1000) /\ Hid (SG = sumG names f ng acc (tl s p)) /\ Hid (Fg g w wr))
  case atStart=>exact ⟨p0,_,bp,[],[],none,0,rfl,rfl,hp0s.out,by show _ < _; have:=hp0s.out; omega,hfu.out,h0.out,Own.nil,AllT.nil,⟨by simp,rfl,fun u hu=>by cases hu⟩,hS0.out,hf0.out⟩
  case round =>
   clear h0 hf0 hS0 hfu hp0s;obtain ⟨p,f,ng,acc,lo,ra,rc,rfl,rfl,hp,hgk,hf,hR,ho,hA,hacc,hSG,hfr⟩:=hrel;obtain ⟨f,rfl⟩:∃ q,f = q + 1:=⟨f - 1,by have:=hf.out; omega⟩
   by_cases h4:lo.length = 4000
   ·
    have h4b:((lo.length:Int) == 4000) = true:=by rw [beq_iff_eq]; omega
    have hGe:=Hd (show SG = .bad (s.size - p) 4 from by rw [hSG.out,sumG,if_pos (by rw [hacc.out.2.1]; exact h4),tl_len]);have CF:=Hd (fail_any g mb p s 4 (p:Int) wr hR.out);have hRo:=hR.out;have hpo:=hp.out;have z0:=Blk.cell hRo 0; have z1:=Blk.cell hRo 1; have z2:=Blk.cell hRo 2; have z3:=Blk.cell hRo 3; have z4:=Blk.cell hRo 4;have hl:=hRo.lt;clear hRo;replace h4:=Hd h4;go_wp2_with fail;refine CF.out.mono ?_;rintro e w1 ⟨rfl,h1,hf1⟩;go_wp2;go_ret;exact ⟨none,0,0,rfl,fun L r e=>(by cases hGe.out.symm.trans e),by rw [hGe.out]; exact ⟨p,hpo,by omega,by decide,by rw [show s.size - (s.size - p) = p by omega]; exact h1⟩,hfr.out.trans hf1⟩
   ·
    have h4b:((lo.length:Int) == 4000) = false:=by rw [beq_eq_false_iff_ne]; omega
    have hG1:SG = (terG names (tl s p)).bnd fun t r=>if r.length = 0 then .ok (acc ++ [sgnT ng t]) r else (sepG r).bnd fun ng' r'=>sumG names f ng' (acc ++ [sgnT ng t]) r':=by
     rw [hSG.out,sumG,if_neg (by rw [hacc.out.2.1]; exact h4)]
    have CT:=term_any g mb p nm0 s names wr hR.out hp.out hs (HM.out wr hfr.out) hne (HE.out wr hfr.out) hge;have htl:=Hd (fun u r (e:terG names (tl s p) = .ok u r)=>show r.length <= (tl s p).length from terG_le e);obtain ⟨TG,hTG⟩:∃ G,terG names (tl s p) = G:=⟨_,rfl⟩
    rw [hTG] at CT hG1 htl;have hgl0:=Hd (fun b (hb:X b)=>ltl (hX.out b hb) (Nat.le_trans hfr.out.size (nlr _)));have h4l:=Hd (show lo.length < 4000 by have:=hacc.out.1; omega);replace CT:=Hd CT; replace hG1:=Hd hG1; replace hTG:=Hd hTG;clear h4 hSG hR;go_wp2_with fail;refine CT.out.mono ?_;rintro e w1 ⟨t,rfl,hok,hbad,hS1,hf1'⟩;have ho1:OwnT w.heap.size w1 ra rc lo:=own_fr ho.out hf1' hlg.out;have hA1:AllT (Xr X ra) w1 lo acc:=hA.out.step (hf1'.agr.mono fun b hb=>.inl (hXg.out b hb));have hf1:=hfr.out.trans hf1';have hsz1:=Hd hf1'.size;have hraW:=Hd (fun q (hq:ra = some q)=>(ho.out.lt hq).2);clear CT ho hA hfr hf1'
    cases TG with
    | bad k er =>
     have hGe:=Hd (show SG = .bad k er from hG1.out);have hbx:=hbad k er rfl;replace hS1:StE w1 g s mb k er:=hS1;clear hok hbad hG1
     cases ng
     ·
      replace hbx:=Hd hbx;have hSN:=Hd hS1;clear hS1
      -- the term at hand,with number y,is laid behind the others: from world w1.alloc (.cells #[.bool t.x.neg,.slice t.x.a t.x.n t.x.c,.slice t.x.b t.x.m t.x.d,.slice t.a t.n t.c] 57) in which the box g5 holds it
      have ho3:=Hd ((ho1.alloc (.cells #[.bool t.x.neg,.slice t.x.a t.x.n t.x.c,.slice t.x.b t.x.m t.x.d,.slice t.a t.n t.c] 57)).alloc (.cells #[.bool t.x.neg,.slice t.x.a t.x.n t.x.c,.slice t.x.b t.x.m t.x.d,.slice t.a t.n t.c] 57));have hel:=Hd (show TQ.At ⟨t.x,t.n,t.a,t.c⟩ ((w1.alloc (.cells #[.bool t.x.neg,.slice t.x.a t.x.n t.x.c,.slice t.x.b t.x.m t.x.d,.slice t.a t.n t.c] 57)).alloc (.cells #[.bool t.x.neg,.slice t.x.a t.x.n t.x.c,.slice t.x.b t.x.m t.x.d,.slice t.a t.n t.c] 57)) (w1.alloc (.cells #[.bool t.x.neg,.slice t.x.a t.x.n t.x.c,.slice t.x.b t.x.m t.x.d,.slice t.a t.n t.c] 57)).heap.size 0 from At.new (t:=⟨t.x,t.n,t.a,t.c⟩));have hf3:=Hd ((hf1.alloc (.cells #[.bool t.x.neg,.slice t.x.a t.x.n t.x.c,.slice t.x.b t.x.m t.x.d,.slice t.a t.n t.c] 57)).alloc (.cells #[.bool t.x.neg,.slice t.x.a t.x.n t.x.c,.slice t.x.b t.x.m t.x.d,.slice t.a t.n t.c] 57))
      have hll:=Hd (show (lo ++ [(⟨t.x,t.n,t.a,t.c⟩:TQ)]).length <= 16777216 from by have:=hacc.out.1; rw [List.length_append]; simp; omega);have hBW:=Hd (show w.heap.size <= ((w1.alloc (.cells #[.bool t.x.neg,.slice t.x.a t.x.n t.x.c,.slice t.x.b t.x.m t.x.d,.slice t.a t.n t.c] 57)).alloc (.cells #[.bool t.x.neg,.slice t.x.a t.x.n t.x.c,.slice t.x.b t.x.m t.x.d,.slice t.a t.n t.c] 57)).heap.size from hf3.out.size);go_wp2_with (at_builtin; go_must (refine append_tm (B:=w.heap.size) rfl (.tmp 32) (.tmp 34) 22 rfl Tryz.underlying22 ra rc rfl ho3.out ⟨t.x,t.n,t.a,t.c⟩ (w1.heap.size + 1) 1 rfl (by have:=hel.out; simpa using this) (lo ++ [⟨t.x,t.n,t.a,t.c⟩]) rfl hll.out hBW.out ?_); intro ra2 rc2 w6 ho6 hg6 ha6);have hf6:Fg g w w6:=hf3.out.grown hg6 fun q hq=>.inr (ho3.out.lt hq).1
      have hSE9:StE w6 g s mb k er:=stE_grown ((hSN.out.alloc2 _).alloc2 _) ho3.out hlg.out hg6;clear ho6 hg6 ha6 ho3 hel hf3
      -- what there is is returned,behind an error; world W9_
      obtain ⟨pe,hpe,hke,h0e,hRe⟩:=hSE9;have hzE:(er == 0) = false:=by rw [beq_eq_false_iff_ne]; exact h0e
      have hzE2:(er != 0) = true:=by rw [bne,hzE]; rfl
      have z0:=Blk.cell hRe 0; have z1:=Blk.cell hRe 1; have z2:=Blk.cell hRe 2; have z3:=Blk.cell hRe 3; have z4:=Blk.cell hRe 4;have hl9:=Blk.lt hRe;have hRe9:=Hd (show RdA w6.drew g s mb pe er ((s.size - k:Nat):Int) from hRe);have hf9:=Hd (show Fg g w w6.drew from hf6.call (brf.drew));replace h0e:=Hd h0e;clear hRe hf6;go_wp2;refine wp_region_mix (S:=(fun x=>x = w6.drew)) [(0,.q),(1,.q),(2,.q),(3,.q),(4,.q),(5,.q),(6,.q),(7,.q),(8,.q),(9,.q),(10,.q),(11,.q),(12,.q),(13,.q),(14,.q),(15,.p),(16,.p)] (by kernel_rfl) (by kernel_rfl) (by kernel_rfl) (fun d _ _ _ _ h=>by cases d <;> exact h) (rfl) ?_
      iterate 6 (refine wpMix_q rfl rfl (fun K hK=>?_); apply Exists.intro; refine ⟨fun w' hw'=>?_,?_⟩; (focus (go_simp; try rfl)); go_simp; refine hK _ _ ?_; clear hK K)
      iterate 10 (refine wpMix_skip rfl rfl (fun K hK=>?_); go_simp; refine hK _ _ ?_; clear hK K)
      iterate 1 (refine wpMix_p rfl rfl (fun K hK=>?_); apply Exists.intro; refine ⟨fun w'=>?_,?_⟩; (focus (go_simp; try rfl)); go_simp; refine hK _ _ ?_; clear hK K)
      refine wpMix_nil ?_;go_wp2;go_ret;exact ⟨_,_,_,rfl,fun L r e=>(by cases hGe.out.symm.trans e),by rw [hGe.out]; exact ⟨pe,hpe,hke,h0e.out,hRe9.out⟩,hf9.out⟩
     ·
      -- the number is negated,though there is an error
      have CZ:=Hd (fun W=>qneg_zero W);have CQ:=Hd (fun q W (hW:QK 1000 W t.x q)=>negS_q t.x q 1000 W hW (by omega));have hbx2:=Hd (show ∀ o,t.x = zQA \/ ∃ q,QK 1000 (w1.alloc o) t.x q from fun o=>hbx.imp (fun h=>h) (fun ⟨q,h⟩=>⟨q,h.now.ext (ext_alloc _ _)⟩));have hSN':=Hd hS1; have ho1':=Hd ho1; have hf1':=Hd hf1;have hg50:∃ q,w1.heap.size = q:=⟨_,rfl⟩
      have hszr:=Hd (show w.heap.size <= w1.heap.size from hf1.size);clear hbx hS1 ho1 hf1 hA1;go_wp2_with fail;refine calls_gen (fun W=>Blk W w1.heap.size 57 #[.bool t.x.neg,.slice t.x.a t.x.n t.x.c,.slice t.x.b t.x.m t.x.d,.slice t.a t.n t.c] /\ StE W g s mb k er /\ OwnT w.heap.size W ra rc lo /\ Fg g w W /\ (t.x = zQA \/ ∃ q,QK 1000 W t.x q)) ⟨Blk.new w1 _ _,hSN'.out.alloc2 _,ho1'.out.alloc _,hf1'.out.alloc _,hbx2.out _⟩ ?_;clear hSN' ho1' hf1' hbx2;obtain ⟨g5,hg5e⟩:=hg50;rw [hg5e];have hg5:=Hd (show (∀ q,ra = some q -> q.block < g5) /\ w.heap.size <= g5 from ⟨fun q hq=>by have:=hraW.out q hq; have:=hsz1.out; omega,by have:=hszr.out; omega⟩);replace hg5e:=Hd hg5e;rintro w2 ⟨hyN,hSN,hoN,hfN,hxN⟩
      have CALL:Calls Tryz.prog 72 #[.agg #[.bool t.x.neg,.slice t.x.a t.x.n t.x.c,.slice t.x.b t.x.m t.x.d]] w2 fun e w'=>∃ yq:QA,e = .returned (.agg #[.bool yq.neg,.slice yq.a yq.n yq.c,.slice yq.b yq.m yq.d]) /\ Below w2.heap.size w2 w':=by
       rcases hxN with h | ⟨q,h⟩
       ·
        rw [h];exact (CZ.out w2)
       · exact (CQ.out q w2 h).mono fun e w' ⟨yq,h1,_,h3⟩=>⟨yq,h1,h3⟩
      refine CALL.mono ?_;clear CALL CZ CQ hxN;rintro e w3 ⟨yq,rfl,hb3⟩
      -- the number is negated; in W2 the box g5 holds the term
      have ho3':OwnT w.heap.size w3 ra rc lo:=hoN.below hb3;have hf3':=hfN.call hb3;have hy3:=hyN.below' hb3;have hSE3:=hSN.below hb3;have y0:=hy3.cell 0; have y1:=hy3.cell 1; have y2:=hy3.cell 2; have y3:=hy3.cell 3; have k0:=hy3.frozen 0; have k1:=hy3.frozen 1; have k2:=hy3.frozen 2;have hgl3:=hy3.lt;obtain ⟨W4,hW4⟩:∃ W,((w3.setCell ⟨g5,0,none⟩ (.bool yq.neg)).setCell ⟨g5,1,none⟩ (.slice yq.a yq.n yq.c)).setCell ⟨g5,2,none⟩ (.slice yq.b yq.m yq.d) = W:=⟨_,rfl⟩
      have hy4:Blk W4 g5 57 #[.bool yq.neg,.slice yq.a yq.n yq.c,.slice yq.b yq.m yq.d,.slice t.a t.n t.c]:=by rw [<- hW4]; exact bS (bS (bS hy3 rfl) rfl) rfl
      have hgr4:w3.grownBy W4 (some g5):=by rw [<- hW4]; exact but_set (but_set (but_set (but_refl w3 g5) 0 _) 1 _) 2 _
      have hro:∀ q,ra = some q -> some g5 ≠ some q.block:=fun q hq e=>by have h1:=hg5.out.1 q hq; injection e with e; omega
      have ho4:OwnT w.heap.size W4 ra rc lo:=ho3'.grown hgr4 hro;have hf4:Fg g w W4:=⟨hgr4.os.trans hf3'.os,hgr4.tape.trans hf3'.tape,hgr4.output.trans hf3'.output,Nat.le_trans hf3'.size hgr4.size,fun i h1 h2=>(hgr4.block i (ltl h1 hf3'.size) (fun e=>by injection e with e; have:=hg5.out.2; omega)).trans (hf3'.block i h1 h2)⟩
      have x0:=hy4.cell 0; have x1:=hy4.cell 1; have x2:=hy4.cell 2; have x3:=hy4.cell 3;have hgl4:=hy4.lt;have hfg:w3.frozen? ⟨g5,3,none⟩ = false:=hy3.frozen 3;clear ho3' hf3' hy3 hy4 hro;have hSN4:=Hd (show StE W4 g s mb k er by rw [<- hW4]; exact ((hSE3.set2 (by have:=hg5.out.2; have:=hlg.out; omega)).set2 (by have:=hg5.out.2; have:=hlg.out; omega)).set2 (by have:=hg5.out.2; have:=hlg.out; omega));have ho4':=Hd ho4; have hf4':=Hd hf4;clear ho4 hf4 hSE3 hgr4 hyN hSN hoN hfN hb3
      -- the term at hand,with number y,is laid behind the others: from world W4 in which the box g5 holds it
      have ho3:=Hd ((ho4'.out).alloc (.cells #[.bool yq.neg,.slice yq.a yq.n yq.c,.slice yq.b yq.m yq.d,.slice t.a t.n t.c] 57));have hel:=Hd (show TQ.At ⟨yq,t.n,t.a,t.c⟩ ((W4).alloc (.cells #[.bool yq.neg,.slice yq.a yq.n yq.c,.slice yq.b yq.m yq.d,.slice t.a t.n t.c] 57)) (W4).heap.size 0 from At.new (t:=⟨yq,t.n,t.a,t.c⟩));have hf3:=Hd ((hf4'.out).alloc (.cells #[.bool yq.neg,.slice yq.a yq.n yq.c,.slice yq.b yq.m yq.d,.slice t.a t.n t.c] 57));have hll:=Hd (show (lo ++ [(⟨yq,t.n,t.a,t.c⟩:TQ)]).length <= 16777216 from by have:=hacc.out.1; rw [List.length_append]; simp; omega);have hBW:=Hd (show w.heap.size <= ((W4).alloc (.cells #[.bool yq.neg,.slice yq.a yq.n yq.c,.slice yq.b yq.m yq.d,.slice t.a t.n t.c] 57)).heap.size from hf3.out.size)
      go_wp2_with (at_builtin; go_must (refine append_tm (B:=w.heap.size) rfl (.tmp 32) (.tmp 34) 22 rfl Tryz.underlying22 ra rc rfl ho3.out ⟨yq,t.n,t.a,t.c⟩ (W4.heap.size) 1 rfl (by have:=hel.out; simpa using this) (lo ++ [⟨yq,t.n,t.a,t.c⟩]) rfl hll.out hBW.out ?_); intro ra2 rc2 w6 ho6 hg6 ha6);have hf6:Fg g w w6:=hf3.out.grown hg6 fun q hq=>.inr (ho3.out.lt hq).1
      have hSE9:StE w6 g s mb k er:=stE_grown (hSN4.out.alloc2 _) ho3.out hlg.out hg6;clear ho6 hg6 ha6 ho3 hel hf3
      -- what there is is returned,behind an error; world W9_
      obtain ⟨pe,hpe,hke,h0e,hRe⟩:=hSE9;have hzE:(er == 0) = false:=by rw [beq_eq_false_iff_ne]; exact h0e
      have hzE2:(er != 0) = true:=by rw [bne,hzE]; rfl
      have z0:=Blk.cell hRe 0; have z1:=Blk.cell hRe 1; have z2:=Blk.cell hRe 2; have z3:=Blk.cell hRe 3; have z4:=Blk.cell hRe 4;have hl9:=Blk.lt hRe;have hRe9:=Hd (show RdA w6.drew g s mb pe er ((s.size - k:Nat):Int) from hRe);have hf9:=Hd (show Fg g w w6.drew from hf6.call (brf.drew));replace h0e:=Hd h0e;clear hRe hf6;go_wp2;refine wp_region_mix (S:=(fun x=>x = w6.drew)) [(0,.q),(1,.q),(2,.q),(3,.q),(4,.q),(5,.q),(6,.q),(7,.q),(8,.q),(9,.q),(10,.q),(11,.q),(12,.q),(13,.q),(14,.q),(15,.p),(16,.p)] (by kernel_rfl) (by kernel_rfl) (by kernel_rfl) (fun d _ _ _ _ h=>by cases d <;> exact h) (rfl) ?_
      iterate 6 (refine wpMix_q rfl rfl (fun K hK=>?_); apply Exists.intro; refine ⟨fun w' hw'=>?_,?_⟩; (focus (go_simp; try rfl)); go_simp; refine hK _ _ ?_; clear hK K)
      iterate 10 (refine wpMix_skip rfl rfl (fun K hK=>?_); go_simp; refine hK _ _ ?_; clear hK K)
      iterate 1 (refine wpMix_p rfl rfl (fun K hK=>?_); apply Exists.intro; refine ⟨fun w'=>?_,?_⟩; (focus (go_simp; try rfl)); go_simp; refine hK _ _ ?_; clear hK K)
      refine wpMix_nil ?_;go_wp2;go_ret;exact ⟨_,_,_,rfl,fun L r e=>(by cases hGe.out.symm.trans e),by rw [hGe.out]; exact ⟨pe,hpe,hke,h0e.out,hRe9.out⟩,hf9.out⟩
    | ok u r =>
     obtain ⟨p1,hp1,hr1,hR1⟩:=hS1;have hKt:=hok u r rfl;have hqu:=Hd hKt.now.2;have hlr:=htl.out u r rfl;rw [hr1,tl_len,tl_len] at hlr;replace hlr:=Hd hlr;have hG2:=Hd (show SG = if r.length = 0 then .ok (acc ++ [sgnT ng u]) r else (sepG r).bnd fun ng' r'=>sumG names f ng' (acc ++ [sgnT ng u]) r' from hG1.out);replace hr1:=Hd hr1
     -- what is read of the term holds whatever is done to the row and to the reader
     have hRt:=Hd (show Rd (Xr X ra) w1 (fun V=>t.R u V) from Rd.kp (hKt.imp fun V h=>h.1) fun b hb=>by
      left;rcases hb with hb | ⟨q,hq,rfl⟩
      · exact hgl0.out b hb
      · exact hraW.out q hq)
     clear hok hbad hG1 hKt
     cases ng
     ·
      have hR1':=Hd hR1;clear hR1
      -- the term at hand,with number y,is laid behind the others: from world w1.alloc (.cells #[.bool t.x.neg,.slice t.x.a t.x.n t.x.c,.slice t.x.b t.x.m t.x.d,.slice t.a t.n t.c] 57) in which the box g5 holds it
      have ho3:=Hd ((ho1.alloc (.cells #[.bool t.x.neg,.slice t.x.a t.x.n t.x.c,.slice t.x.b t.x.m t.x.d,.slice t.a t.n t.c] 57)).alloc (.cells #[.bool t.x.neg,.slice t.x.a t.x.n t.x.c,.slice t.x.b t.x.m t.x.d,.slice t.a t.n t.c] 57));have hel:=Hd (show TQ.At ⟨t.x,t.n,t.a,t.c⟩ ((w1.alloc (.cells #[.bool t.x.neg,.slice t.x.a t.x.n t.x.c,.slice t.x.b t.x.m t.x.d,.slice t.a t.n t.c] 57)).alloc (.cells #[.bool t.x.neg,.slice t.x.a t.x.n t.x.c,.slice t.x.b t.x.m t.x.d,.slice t.a t.n t.c] 57)) (w1.alloc (.cells #[.bool t.x.neg,.slice t.x.a t.x.n t.x.c,.slice t.x.b t.x.m t.x.d,.slice t.a t.n t.c] 57)).heap.size 0 from At.new (t:=⟨t.x,t.n,t.a,t.c⟩));have hf3:=Hd ((hf1.alloc (.cells #[.bool t.x.neg,.slice t.x.a t.x.n t.x.c,.slice t.x.b t.x.m t.x.d,.slice t.a t.n t.c] 57)).alloc (.cells #[.bool t.x.neg,.slice t.x.a t.x.n t.x.c,.slice t.x.b t.x.m t.x.d,.slice t.a t.n t.c] 57))
      have hll:=Hd (show (lo ++ [(⟨t.x,t.n,t.a,t.c⟩:TQ)]).length <= 16777216 from by have:=hacc.out.1; rw [List.length_append]; simp; omega);have hBW:=Hd (show w.heap.size <= ((w1.alloc (.cells #[.bool t.x.neg,.slice t.x.a t.x.n t.x.c,.slice t.x.b t.x.m t.x.d,.slice t.a t.n t.c] 57)).alloc (.cells #[.bool t.x.neg,.slice t.x.a t.x.n t.x.c,.slice t.x.b t.x.m t.x.d,.slice t.a t.n t.c] 57)).heap.size from hf3.out.size);go_wp2_with (at_builtin; go_must (refine append_tm (B:=w.heap.size) rfl (.tmp 32) (.tmp 34) 22 rfl Tryz.underlying22 ra rc rfl ho3.out ⟨t.x,t.n,t.a,t.c⟩ (w1.heap.size + 1) 1 rfl (by have:=hel.out; simpa using this) (lo ++ [⟨t.x,t.n,t.a,t.c⟩]) rfl hll.out hBW.out ?_); intro ra2 rc2 w6 ho6 hg6 ha6);have hf6:Fg g w w6:=hf3.out.grown hg6 fun q hq=>.inr (ho3.out.lt hq).1
      have hR6:RdA w6 g s mb p1 0 0:=rdA_grown (bA (bA hR1'.out)) ho3.out hlg.out hg6;have hA6:AllT (Xr X ra2) w6 (lo ++ [⟨t.x,t.n,t.a,t.c⟩]) (acc ++ [sgnT false u]):=by
       refine AllT.app (((hA1.step ((Agr.refl _ _).alloc _)).step ((Agr.refl _ _).alloc _)).append (AllT.one ?_)) hg6 (by simpa using ha6);exact (hRt.out.alloc _).alloc _
      obtain ⟨acc2,hacc2⟩:∃ z,acc ++ [sgnT false u] = z:=⟨_,rfl⟩
      have ha2:=Hd (show (lo ++ [(⟨t.x,t.n,t.a,t.c⟩:TQ)]).length <= 4000 /\ acc2.length = (lo ++ [(⟨t.x,t.n,t.a,t.c⟩:TQ)]).length /\ ∀ u ∈ acc2,qsz u.1 <= 1000 from by
       rw [<- hacc2];refine ⟨by have:=h4l.out; rw [List.length_append]; simp; omega,by rw [List.length_append,List.length_append,hacc.out.2.1]; rfl,fun x hx=>?_⟩;rcases List.mem_append.1 hx with hx | hx
       · exact hacc.out.2.2 x hx
       · rw [List.mem_singleton] at hx; subst hx; exact hqu.out)
      rw [hacc2] at hA6 hG2;obtain ⟨lo2,hlo2⟩:∃ z,lo ++ [(⟨t.x,t.n,t.a,t.c⟩:TQ)] = z:=⟨_,rfl⟩
      have hll2:lo.length + 1 = lo2.length:=by rw [<- hlo2,List.length_append]; rfl
      rw [hlo2] at hA6 ha2 ho6;rw [hll2];clear ho1 hA1 hf1 hR1' hg6 ha6 ho3 hel hf3 hRt hacc2 hlo2 hll hll2
      -- the sum goes on,or is at its end: world w6,place p1,the row lo2,the terms acc2
      by_cases hend:p1 = s.size
      ·
       have hGe:=Hd (show SG = .ok acc2 (tl s p1) from by rw [hG2.out,if_pos (by rw [hr1.out,tl_len]; omega),hr1.out]);have hendb:((p1:Int) == (s.size:Int)) = true:=by rw [beq_iff_eq]; omega
       have hP:=Hd (show PolX X w6.drew ra2 rc2 acc2 from OwnT.pol (w:=w6.drew) ho6 (hA6) hX.out);have z0:=Blk.cell hR6 0; have z1:=Blk.cell hR6 1; have z2:=Blk.cell hR6 2; have z3:=Blk.cell hR6 3; have z4:=Blk.cell hR6 4;have hl9:=Blk.lt hR6;have hR9:=Hd (show RdA w6.drew g s mb p1 0 0 from hR6);have hf9:=Hd (show Fg g w w6.drew from hf6.call (brf.drew));replace hend:=Hd hend;clear hR6 hf6 hA6 ho6;go_wp2;refine wp_region_mix (S:=(fun x=>x = w6.drew)) [(0,.q),(1,.q),(2,.q),(3,.q),(4,.q),(5,.q),(6,.q),(7,.q),(8,.q),(9,.q),(10,.q),(11,.q),(12,.q),(13,.q),(14,.q),(15,.p),(16,.p)] (by kernel_rfl) (by kernel_rfl) (by kernel_rfl) (fun d _ _ _ _ h=>by cases d <;> exact h) (rfl) ?_
       iterate 15 (refine wpMix_q rfl rfl (fun K hK=>?_); apply Exists.intro; refine ⟨fun w' hw'=>?_,?_⟩; (focus (go_simp; try rfl)); go_simp; refine hK _ _ ?_; clear hK K)
       iterate 2 (refine wpMix_p rfl rfl (fun K hK=>?_); apply Exists.intro; refine ⟨fun w'=>?_,?_⟩; (focus (go_simp; try rfl)); go_simp; refine hK _ _ ?_; clear hK K)
       refine wpMix_nil ?_;go_wp2;go_ret;exact ⟨_,_,_,rfl,fun L r e=>(by injection hGe.out.symm.trans e with e1 e2; subst e1; exact ⟨ha2.out.2.1.symm,hP.out,ha2.out.2.2⟩),by rw [hGe.out]; exact ⟨p1,hp1,rfl,hR9.out⟩,hf9.out⟩
      ·
       have hendb:((p1:Int) == (s.size:Int)) = false:=by rw [beq_eq_false_iff_ne]; omega
       have hG3:=Hd (show SG = (sepG (tl s p1)).bnd fun ng' r'=>sumG names f ng' acc2 r' from by rw [hG2.out,if_neg (by rw [hr1.out,tl_len]; omega),hr1.out]);have HC:=Hd (fun W (hW:Fg g w6 W)=>(⟨own_fr ho6 hW hlg.out,hA6.step (hW.agr.mono fun b hb=>.inl (hXg.out b hb)),hf6.trans hW⟩:OwnT w.heap.size W ra2 rc2 lo2 /\ AllT (Xr X ra2) W lo2 acc2 /\ Fg g w W));have z0:=Blk.cell hR6 0; have z1:=Blk.cell hR6 1; have z2:=Blk.cell hR6 2; have z3:=Blk.cell hR6 3; have z4:=Blk.cell hR6 4;have hl9:=Blk.lt hR6;have hR7:RdA w6.drew g s mb p1 0 0:=hR6;have hf7:Fg g w6 w6.drew:=Fr.below (brf.drew);have C1:=Hd (take_any g mb p1 s 32 32 rfl w6.drew hR7 hp1 hs);replace hf7:=Hd hf7;clear hR6 hf6 hA6 ho6 hR7 hG2;go_wp2
       refine wp_region_mix (S:=(fun x=>x = w6.drew)) [(0,.q),(1,.q),(2,.q),(3,.q),(4,.q),(5,.q),(6,.q),(7,.q),(8,.q),(9,.q),(10,.q),(11,.q),(12,.q),(13,.q),(14,.q),(15,.p),(16,.p)] (by kernel_rfl) (by kernel_rfl) (by kernel_rfl) (fun d _ _ _ _ h=>by cases d <;> exact h) (rfl) ?_
       iterate 15 (refine wpMix_q rfl rfl (fun K hK=>?_); apply Exists.intro; refine ⟨fun w' hw'=>?_,?_⟩; (focus (go_simp; try rfl)); go_simp; refine hK _ _ ?_; clear hK K)
       iterate 2 (refine wpMix_p rfl rfl (fun K hK=>?_); apply Exists.intro; refine ⟨fun w'=>?_,?_⟩; (focus (go_simp; try rfl)); go_simp; refine hK _ _ ?_; clear hK K)
       refine wpMix_nil ?_;go_wp2_with fail;refine C1.out.mono ?_;rintro e w8 ⟨rfl,hS8,hf8'⟩;have hf8:=hf7.out.trans hf8';clear C1 hf8' hf7 z0 z1 z2 z3 z4 hl9;have hsp:sepG (tl s p1) = (eatG 32 (tl s p1)).bnd fun _ r=>if r[0]? = some 45 then (eatG 32 (r.drop 1)).bnd fun _ r'=>.ok true r' else (eatG 43 r).bnd fun _ r1=>(eatG 32 r1).bnd fun _ r2=>.ok false r2:=rfl
       obtain ⟨E1,hE1⟩:∃ G,eatG 32 (tl s p1) = G:=⟨_,rfl⟩
       have hl1:=Hd (fun r (e:E1 = .ok () r)=>eatG_less (hE1.trans e));rw [hE1] at hsp hS8;have hG4:=Hd (hG3.out.trans (congrArg (fun z:Got Bool=>z.bnd fun ng' r'=>sumG names f ng' acc2 r') hsp));clear hG3 hsp hE1
       cases E1 with
       | bad k er =>
        have hGe:=Hd (show SG = .bad k er from hG4.out);obtain ⟨pe,hpe,hke,h0e,hRe⟩:=(hS8:StE w8 g s mb k er)
        have CP:=Hd (peek_any g mb pe s er ((s.size - k:Nat):Int) 45 w8 hRe hpe hs);obtain ⟨bq,hbq⟩:∃ b,nxtB (tl s pe) 45 = b:=⟨_,rfl⟩
        rw [hbq] at CP;replace h0e:=Hd h0e;clear hbq hG4;go_wp2_with fail;refine CP.out.mono ?_;rintro e w9 ⟨rfl,hb9⟩;have hR9:=hRe.below hb9;have hf9:=hf8.call hb9;have T1:=Hd (fun z=>take_no g mb pe s z er ((s.size - k:Nat):Int) w9 hR9 h0e.out);have hSE9':=Hd (show StE w9 g s mb k er from ⟨pe,hpe,hke,h0e.out,hR9⟩);have hF9:=Hd (HC.out w9 hf9).2.2;clear CP hRe hb9 hR9 hf9 hf8
        cases bq
        ·
         go_wp2_with fail;refine (T1.out 43).mono ?_;rintro e w' ⟨rfl,rfl⟩;go_wp2_with fail;refine (T1.out 32).mono ?_;rintro e w' ⟨rfl,rfl⟩;have hSE9:=hSE9'.out
         -- nothing is returned: in world W9_,behind an error (hGe:SG = .bad k er)
         obtain ⟨pe,hpe,hke,h0e,hRe⟩:=hSE9;have hzE:(er == 0) = false:=by rw [beq_eq_false_iff_ne]; exact h0e
         have hzE2:(er != 0) = true:=by rw [bne,hzE]; rfl
         have z0:=Blk.cell hRe 0; have z1:=Blk.cell hRe 1; have z2:=Blk.cell hRe 2; have z3:=Blk.cell hRe 3; have z4:=Blk.cell hRe 4;have hl9:=Blk.lt hRe;have hRe9:=Hd hRe;replace h0e:=Hd h0e;clear hRe;go_wp2;go_ret;exact ⟨none,0,0,rfl,fun L r e=>(by cases hGe.out.symm.trans e),by rw [hGe.out]; exact ⟨pe,hpe,hke,h0e.out,hRe9.out⟩,hF9.out⟩
        ·
         go_wp2_with fail;refine (T1.out 45).mono ?_;rintro e w' ⟨rfl,rfl⟩;go_wp2_with fail;refine (T1.out 32).mono ?_;rintro e w' ⟨rfl,rfl⟩;have hSE9:=hSE9'.out
         -- nothing is returned: in world W9_,behind an error (hGe:SG = .bad k er)
         obtain ⟨pe,hpe,hke,h0e,hRe⟩:=hSE9;have hzE:(er == 0) = false:=by rw [beq_eq_false_iff_ne]; exact h0e
         have hzE2:(er != 0) = true:=by rw [bne,hzE]; rfl
         have z0:=Blk.cell hRe 0; have z1:=Blk.cell hRe 1; have z2:=Blk.cell hRe 2; have z3:=Blk.cell hRe 3; have z4:=Blk.cell hRe 4;have hl9:=Blk.lt hRe;have hRe9:=Hd hRe;replace h0e:=Hd h0e;clear hRe;go_wp2;go_ret;exact ⟨none,0,0,rfl,fun L r e=>(by cases hGe.out.symm.trans e),by rw [hGe.out]; exact ⟨pe,hpe,hke,h0e.out,hRe9.out⟩,hF9.out⟩
       | ok uu r2 =>
        obtain ⟨p2,hp2,hr2,hR8⟩:=(hS8:StR w8 g s mb r2)
        have hlt2:=hl1.out r2 rfl;rw [hr2,tl_len,tl_len] at hlt2;have hG5:SG = (if r2[0]? = some 45 then (eatG 32 (r2.drop 1)).bnd fun _ r'=>.ok true r' else (eatG 43 r2).bnd fun _ r1=>(eatG 32 r1).bnd fun _ r2=>(.ok false r2:Got Bool)).bnd fun ng' r'=>sumG names f ng' acc2 r':=hG4.out
        rw [hr2] at hG5;have CP:=Hd (peek_any g mb p2 s 0 0 45 w8 hR8 hp2 hs);have hst:=nxtB_is (tl s p2) 45 (z:=45) rfl;obtain ⟨bq,hbq⟩:∃ b,nxtB (tl s p2) 45 = b:=⟨_,rfl⟩
        rw [hbq] at CP hst;replace hbq:=Hd hbq; replace hst:=Hd hst; replace hG5:=Hd hG5; replace hr2:=Hd hr2;clear hG4;go_wp2_with fail;refine CP.out.mono ?_;rintro e w9 ⟨rfl,hb9⟩;have hR9:=hR8.below hb9;have hf9:=hf8.call hb9;clear CP hR8 hb9 hf8
        cases bq
        ·
         have h45:¬ (tl s p2)[0]? = some 45:=by have:=hst.out; simpa using this.symm
         have hG6:=hG5.out;rw [if_neg h45] at hG6;have C2:=Hd (take_any g mb p2 s 43 43 rfl w9 hR9 hp2 hs);obtain ⟨E2,hE2⟩:∃ G,eatG 43 (tl s p2) = G:=⟨_,rfl⟩
         have hl2:=Hd (fun r (e:E2 = .ok () r)=>eatG_less (hE2.trans e));rw [hE2] at C2 hG6;replace hG6:=Hd hG6;clear hE2 h45 hR9;go_wp2_with fail;refine C2.out.mono ?_;rintro e w10 ⟨rfl,hS10,hf10'⟩;have hf10:=hf9.trans hf10';clear C2 hf9 hf10'
         cases E2 with
         | bad k er =>
          have hGe:=Hd (show SG = .bad k er from hG6.out);obtain ⟨pe,hpe,hke,h0e,hRe⟩:=(hS10:StE w10 g s mb k er)
          have T1:=Hd (fun z=>take_no g mb pe s z er ((s.size - k:Nat):Int) w10 hRe h0e);have hSE9':=Hd (show StE w10 g s mb k er from ⟨pe,hpe,hke,h0e,hRe⟩);have hF9:=Hd (HC.out w10 hf10).2.2;clear hRe hf10 h0e;go_wp2_with fail;refine (T1.out 32).mono ?_;rintro e w' ⟨rfl,rfl⟩;have hSE9:=hSE9'.out
          -- nothing is returned: in world W9_,behind an error (hGe:SG = .bad k er)
          obtain ⟨pe,hpe,hke,h0e,hRe⟩:=hSE9;have hzE:(er == 0) = false:=by rw [beq_eq_false_iff_ne]; exact h0e
          have hzE2:(er != 0) = true:=by rw [bne,hzE]; rfl
          have z0:=Blk.cell hRe 0; have z1:=Blk.cell hRe 1; have z2:=Blk.cell hRe 2; have z3:=Blk.cell hRe 3; have z4:=Blk.cell hRe 4;have hl9:=Blk.lt hRe;have hRe9:=Hd hRe;replace h0e:=Hd h0e;clear hRe;go_wp2;go_ret;exact ⟨none,0,0,rfl,fun L r e=>(by cases hGe.out.symm.trans e),by rw [hGe.out]; exact ⟨pe,hpe,hke,h0e.out,hRe9.out⟩,hF9.out⟩
         | ok uu r3 =>
          obtain ⟨p3,hp3,hr3,hR10⟩:=(hS10:StR w10 g s mb r3)
          have hlt3:=hl2.out r3 rfl;rw [hr3,tl_len,tl_len] at hlt3;have hG7:SG = ((eatG 32 r3).bnd fun _ r2=>(.ok false r2:Got Bool)).bnd fun ng' r'=>sumG names f ng' acc2 r':=hG6.out
          rw [hr3] at hG7;clear hG6 hr3
          -- the blank behind the sign
          have C3:=Hd (take_any g mb p3 s 32 32 rfl w10 hR10 hp3 hs);obtain ⟨E3,hE3⟩:∃ G,eatG 32 (tl s p3) = G:=⟨_,rfl⟩
          have hl3:=Hd (fun r (e:E3 = .ok () r)=>eatG_less (hE3.trans e));rw [hE3] at C3 hG7;replace C3:=Hd C3.out;clear hE3 hR10;go_wp2_with fail;refine C3.out.mono ?_;rintro e w11 ⟨rfl,hS11,hf11'⟩;have hf11:=hf10.trans hf11';clear C3 hf10 hf11'
          cases E3 with
          | bad k er =>
           have hGe:=Hd (show SG = .bad k er from hG7);have hSE9:StE w11 g s mb k er:=hS11;have hF9:=Hd (HC.out w11 hf11).2.2;clear hS11 hf11 hG7
           -- nothing is returned: in world W9_,behind an error (hGe:SG = .bad k er)
           obtain ⟨pe,hpe,hke,h0e,hRe⟩:=hSE9;have hzE:(er == 0) = false:=by rw [beq_eq_false_iff_ne]; exact h0e
           have hzE2:(er != 0) = true:=by rw [bne,hzE]; rfl
           have z0:=Blk.cell hRe 0; have z1:=Blk.cell hRe 1; have z2:=Blk.cell hRe 2; have z3:=Blk.cell hRe 3; have z4:=Blk.cell hRe 4;have hl9:=Blk.lt hRe;have hRe9:=Hd hRe;replace h0e:=Hd h0e;clear hRe;go_wp2;go_ret;exact ⟨none,0,0,rfl,fun L r e=>(by cases hGe.out.symm.trans e),by rw [hGe.out]; exact ⟨pe,hpe,hke,h0e.out,hRe9.out⟩,hF9.out⟩
          | ok uu r4 =>
           obtain ⟨p4,hp4,hr4,hR11⟩:=(hS11:StR w11 g s mb r4)
           have hlt4:=hl3.out r4 rfl;rw [hr4,tl_len,tl_len] at hlt4;have hG8:=Hd (show SG = sumG names f false acc2 (tl s p4) from by rw [<- hr4]; exact hG7);have z0:=Blk.cell hR11 0; have z1:=Blk.cell hR11 1; have z2:=Blk.cell hR11 2; have z3:=Blk.cell hR11 3; have z4:=Blk.cell hR11 4;have hl11:=Blk.lt hR11;have hC2:=Hd (HC.out w11 hf11);have hR12:=Hd hR11;have hm:=Hd (show s.size - p4 < s.size - p /\ s.size - p4 + 1 <= s.size - p from by have:=hlt3; have:=hlr.out; omega);clear hf11 hG7 hr4 hR11;go_wp2;go_roundg (s.size - p4 + 1)
           case rel=>exact ⟨p4,f,false,acc2,lo2,ra2,rc2,rfl,rfl,hp4,Nat.lt_succ_self _,by show (tl s p4).length < f; have:=hm.out; have:=hf.out; rw [tl_len] at this ⊢; omega,hR12.out,hC2.out.1,hC2.out.2.1,ha2.out,hG8.out,hC2.out.2.2⟩
           case measure=>have:=hm.out; have:=hgk.out; omega
        ·
         have h45:(tl s p2)[0]? = some 45:=by have:=hst.out; simpa using this.symm
         have hG6:=hG5.out;rw [if_pos h45,tl_drop] at hG6;have hp2l:p2 < s.size:=by
          apply Nat.lt_of_not_le;intro hle;rw [tl_end hle] at h45
          cases h45
         have hE2:eatG 45 (tl s p2) = .ok () (tl s (p2 + 1)):=by unfold eatG; rw [if_pos h45,tl_drop]
         have C2:=take_any g mb p2 s 45 45 rfl w9 hR9 hp2 hs;rw [hE2] at C2;replace C2:=Hd C2; replace hG6:=Hd hG6;clear hE2 h45 hR9;go_wp2_with fail;refine C2.out.mono ?_;rintro e w10 ⟨rfl,hS10,hf10'⟩;have hf10:=hf9.trans hf10';obtain ⟨p3,hp3,hr3,hR10⟩:=(hS10:StR w10 g s mb (tl s (p2 + 1)))
         have hlt3:s.size - p3 < s.size - p2:=by have:=congrArg List.length hr3; rw [tl_len,tl_len] at this; omega
         have hG7:=hG6.out;rw [hr3] at hG7;clear C2 hf9 hf10' hG6 hr3
         -- the blank behind the sign
         have C3:=Hd (take_any g mb p3 s 32 32 rfl w10 hR10 hp3 hs);obtain ⟨E3,hE3⟩:∃ G,eatG 32 (tl s p3) = G:=⟨_,rfl⟩
         have hl3:=Hd (fun r (e:E3 = .ok () r)=>eatG_less (hE3.trans e));rw [hE3] at C3 hG7;replace C3:=Hd C3.out;clear hE3 hR10;go_wp2_with fail;refine C3.out.mono ?_;rintro e w11 ⟨rfl,hS11,hf11'⟩;have hf11:=hf10.trans hf11';clear C3 hf10 hf11'
         cases E3 with
         | bad k er =>
          have hGe:=Hd (show SG = .bad k er from hG7);have hSE9:StE w11 g s mb k er:=hS11;have hF9:=Hd (HC.out w11 hf11).2.2;clear hS11 hf11 hG7
          -- nothing is returned: in world W9_,behind an error (hGe:SG = .bad k er)
          obtain ⟨pe,hpe,hke,h0e,hRe⟩:=hSE9;have hzE:(er == 0) = false:=by rw [beq_eq_false_iff_ne]; exact h0e
          have hzE2:(er != 0) = true:=by rw [bne,hzE]; rfl
          have z0:=Blk.cell hRe 0; have z1:=Blk.cell hRe 1; have z2:=Blk.cell hRe 2; have z3:=Blk.cell hRe 3; have z4:=Blk.cell hRe 4;have hl9:=Blk.lt hRe;have hRe9:=Hd hRe;replace h0e:=Hd h0e;clear hRe;go_wp2;go_ret;exact ⟨none,0,0,rfl,fun L r e=>(by cases hGe.out.symm.trans e),by rw [hGe.out]; exact ⟨pe,hpe,hke,h0e.out,hRe9.out⟩,hF9.out⟩
         | ok uu r4 =>
          obtain ⟨p4,hp4,hr4,hR11⟩:=(hS11:StR w11 g s mb r4)
          have hlt4:=hl3.out r4 rfl;rw [hr4,tl_len,tl_len] at hlt4;have hG8:=Hd (show SG = sumG names f true acc2 (tl s p4) from by rw [<- hr4]; exact hG7);have z0:=Blk.cell hR11 0; have z1:=Blk.cell hR11 1; have z2:=Blk.cell hR11 2; have z3:=Blk.cell hR11 3; have z4:=Blk.cell hR11 4;have hl11:=Blk.lt hR11;have hC2:=Hd (HC.out w11 hf11);have hR12:=Hd hR11;have hm:=Hd (show s.size - p4 < s.size - p /\ s.size - p4 + 1 <= s.size - p from by have:=hlt3; have:=hlr.out; omega);clear hf11 hG7 hr4 hR11;go_wp2;go_roundg (s.size - p4 + 1)
          case rel=>exact ⟨p4,f,true,acc2,lo2,ra2,rc2,rfl,rfl,hp4,Nat.lt_succ_self _,by show (tl s p4).length < f; have:=hm.out; have:=hf.out; rw [tl_len] at this ⊢; omega,hR12.out,hC2.out.1,hC2.out.2.1,ha2.out,hG8.out,hC2.out.2.2⟩
          case measure=>have:=hm.out; have:=hgk.out; omega
     ·
      -- the number is negated
      have CQ:=Hd (fun W (hW:QK 1000 W t.x u.1)=>negS_q t.x u.1 1000 W hW (by omega));have hR1':=Hd hR1; have ho1':=Hd ho1; have hf1':=Hd hf1; have hA1':=Hd hA1;have hg50:∃ q,w1.heap.size = q:=⟨_,rfl⟩
      have hszr:=Hd (show w.heap.size <= w1.heap.size from hf1.size);clear hR1 ho1 hf1 hA1;go_wp2_with fail;refine calls_gen (fun W=>Blk W w1.heap.size 57 #[.bool t.x.neg,.slice t.x.a t.x.n t.x.c,.slice t.x.b t.x.m t.x.d,.slice t.a t.n t.c] /\ RdA W g s mb p1 0 0 /\ OwnT w.heap.size W ra rc lo /\ Fg g w W /\ AllT (fun b=>Xr X ra b \/ b = w1.heap.size) W lo acc /\ Rd (fun b=>Xr X ra b \/ b = w1.heap.size) W (fun V=>t.R u V) /\ w1.heap.size < W.heap.size) ⟨Blk.new w1 _ _,bA hR1'.out,ho1'.out.alloc _,hf1'.out.alloc _,(hA1'.out.map fun _ _ k=>rd_wide k).step ((Agr.refl _ _).alloc _),(rd_wide hRt.out).alloc _,by simp⟩ ?_;clear hR1' ho1' hf1' hA1' hRt;obtain ⟨g5,hg5e⟩:=hg50;rw [hg5e];have hg5:=Hd (show (∀ q,ra = some q -> q.block < g5) /\ w.heap.size <= g5 from ⟨fun q hq=>by have:=hraW.out q hq; have:=hsz1.out; omega,by have:=hszr.out; omega⟩);replace hg5e:=Hd hg5e
      rintro w2 ⟨hyN,hRN,hoN,hfN,hAN,htN,hs5⟩;have hgw2:=Hd (fun b (hb:X b)=>ltl (hX.out b hb) hfN.size);have hraW2:=Hd (fun q (hq:ra = some q)=>(hoN.lt hq).2);refine (CQ.out w2 ⟨htN.now.1,hqu.out⟩).mono ?_;clear CQ;rintro e w3 ⟨yq,rfl,hKy,hb3⟩;have hRy:=htN.call hb3;have hA3:=hAN.call hb3;have hR3:=hRN.below hb3;have hKy3:=Hd (show Rd (fun b=>Xr X ra b \/ b = g5) w3 (fun V=>QK 1000 V yq (-u.1)) from Rd.kp hKy fun b hb=>by
       left;rcases hb with (hb | ⟨q,hq,rfl⟩) | rfl
       · exact hgw2.out b hb
       · exact hraW2.out q hq
       · exact hs5)
      -- the number is negated; in W2 the box g5 holds the term
      have ho3':OwnT w.heap.size w3 ra rc lo:=hoN.below hb3;have hf3':=hfN.call hb3;have hy3:=hyN.below' hb3;have y0:=hy3.cell 0; have y1:=hy3.cell 1; have y2:=hy3.cell 2; have y3:=hy3.cell 3; have k0:=hy3.frozen 0; have k1:=hy3.frozen 1; have k2:=hy3.frozen 2;have hgl3:=hy3.lt;obtain ⟨W4,hW4⟩:∃ W,((w3.setCell ⟨g5,0,none⟩ (.bool yq.neg)).setCell ⟨g5,1,none⟩ (.slice yq.a yq.n yq.c)).setCell ⟨g5,2,none⟩ (.slice yq.b yq.m yq.d) = W:=⟨_,rfl⟩
      have hy4:Blk W4 g5 57 #[.bool yq.neg,.slice yq.a yq.n yq.c,.slice yq.b yq.m yq.d,.slice t.a t.n t.c]:=by rw [<- hW4]; exact bS (bS (bS hy3 rfl) rfl) rfl
      have hgr4:w3.grownBy W4 (some g5):=by rw [<- hW4]; exact but_set (but_set (but_set (but_refl w3 g5) 0 _) 1 _) 2 _
      have hro:∀ q,ra = some q -> some g5 ≠ some q.block:=fun q hq e=>by have h1:=hg5.out.1 q hq; injection e with e; omega
      have ho4:OwnT w.heap.size W4 ra rc lo:=ho3'.grown hgr4 hro;have hf4:Fg g w W4:=⟨hgr4.os.trans hf3'.os,hgr4.tape.trans hf3'.tape,hgr4.output.trans hf3'.output,Nat.le_trans hf3'.size hgr4.size,fun i h1 h2=>(hgr4.block i (ltl h1 hf3'.size) (fun e=>by injection e with e; have:=hg5.out.2; omega)).trans (hf3'.block i h1 h2)⟩
      have x0:=hy4.cell 0; have x1:=hy4.cell 1; have x2:=hy4.cell 2; have x3:=hy4.cell 3;have hgl4:=hy4.lt;have hfg:w3.frozen? ⟨g5,3,none⟩ = false:=hy3.frozen 3;clear ho3' hf3' hy3 hy4 hro;have hR4:=Hd (show RdA W4 g s mb p1 0 0 by rw [<- hW4]; exact bF (by have:=hg5.out.2; have:=hlg.out; omega) (bF (by have:=hg5.out.2; have:=hlg.out; omega) (bF (by have:=hg5.out.2; have:=hlg.out; omega) hR3)));have hW34:Agr (fun b=>Xr X ra b \/ b = g5) w3 W4:=by rw [<- hW4]; exact (((Agr.refl _ _).setc (.inr rfl)).setc (.inr rfl)).setc (.inr rfl)
      have hA4:=Hd (show AllT (Xr X ra) W4 lo acc from (hA3.step hW34).map fun _ _ k=>k.less fun b hb=>.inl hb);have hRy4:=Hd (show Rd (Xr X ra) W4 (fun V=>TQ.R ⟨yq,t.n,t.a,t.c⟩ (sgnT true u) V) from (((hKy3.out.and hRy).step hW34).less fun b hb=>.inl hb).imp fun V h=>⟨h.1.1,h.2.2⟩);have ho4':=Hd ho4; have hf4':=Hd hf4;clear ho4 hf4 hgr4 hyN hRN hoN hfN hAN htN hb3 hKy hRy hA3 hR3 hW34 hKy3 hs5
      -- the term at hand,with number y,is laid behind the others: from world W4 in which the box g5 holds it
      have ho3:=Hd ((ho4'.out).alloc (.cells #[.bool yq.neg,.slice yq.a yq.n yq.c,.slice yq.b yq.m yq.d,.slice t.a t.n t.c] 57));have hel:=Hd (show TQ.At ⟨yq,t.n,t.a,t.c⟩ ((W4).alloc (.cells #[.bool yq.neg,.slice yq.a yq.n yq.c,.slice yq.b yq.m yq.d,.slice t.a t.n t.c] 57)) (W4).heap.size 0 from At.new (t:=⟨yq,t.n,t.a,t.c⟩));have hf3:=Hd ((hf4'.out).alloc (.cells #[.bool yq.neg,.slice yq.a yq.n yq.c,.slice yq.b yq.m yq.d,.slice t.a t.n t.c] 57));have hll:=Hd (show (lo ++ [(⟨yq,t.n,t.a,t.c⟩:TQ)]).length <= 16777216 from by have:=hacc.out.1; rw [List.length_append]; simp; omega);have hBW:=Hd (show w.heap.size <= ((W4).alloc (.cells #[.bool yq.neg,.slice yq.a yq.n yq.c,.slice yq.b yq.m yq.d,.slice t.a t.n t.c] 57)).heap.size from hf3.out.size)
      go_wp2_with (at_builtin; go_must (refine append_tm (B:=w.heap.size) rfl (.tmp 32) (.tmp 34) 22 rfl Tryz.underlying22 ra rc rfl ho3.out ⟨yq,t.n,t.a,t.c⟩ (W4.heap.size) 1 rfl (by have:=hel.out; simpa using this) (lo ++ [⟨yq,t.n,t.a,t.c⟩]) rfl hll.out hBW.out ?_); intro ra2 rc2 w6 ho6 hg6 ha6);have hf6:Fg g w w6:=hf3.out.grown hg6 fun q hq=>.inr (ho3.out.lt hq).1
      have hR6:RdA w6 g s mb p1 0 0:=rdA_grown (bA hR4.out) ho3.out hlg.out hg6;have hA6:AllT (Xr X ra2) w6 (lo ++ [⟨yq,t.n,t.a,t.c⟩]) (acc ++ [sgnT true u]):=by
       refine AllT.app ((hA4.out.step ((Agr.refl _ _).alloc _)).append (AllT.one ?_)) hg6 (by simpa using ha6);exact hRy4.out.alloc _
      obtain ⟨acc2,hacc2⟩:∃ z,acc ++ [sgnT true u] = z:=⟨_,rfl⟩
      have ha2:=Hd (show (lo ++ [(⟨yq,t.n,t.a,t.c⟩:TQ)]).length <= 4000 /\ acc2.length = (lo ++ [(⟨yq,t.n,t.a,t.c⟩:TQ)]).length /\ ∀ u ∈ acc2,qsz u.1 <= 1000 from by
       rw [<- hacc2];refine ⟨by have:=h4l.out; rw [List.length_append]; simp; omega,by rw [List.length_append,List.length_append,hacc.out.2.1]; rfl,fun x hx=>?_⟩;rcases List.mem_append.1 hx with hx | hx
       · exact hacc.out.2.2 x hx
       · rw [List.mem_singleton] at hx; subst hx; show qsz (-u.1) <= 1000; rw [qsz_neg]; exact hqu.out)
      rw [hacc2] at hA6 hG2;obtain ⟨lo2,hlo2⟩:∃ z,lo ++ [(⟨yq,t.n,t.a,t.c⟩:TQ)] = z:=⟨_,rfl⟩
      have hll2:lo.length + 1 = lo2.length:=by rw [<- hlo2,List.length_append]; rfl
      rw [hlo2] at hA6 ha2 ho6;rw [hll2];clear hR4 hA4 hRy4 ho4' hf4' hg6 ha6 ho3 hel hf3 hacc2 hlo2 hll hll2
      -- the sum goes on,or is at its end: world w6,place p1,the row lo2,the terms acc2
      by_cases hend:p1 = s.size
      ·
       have hGe:=Hd (show SG = .ok acc2 (tl s p1) from by rw [hG2.out,if_pos (by rw [hr1.out,tl_len]; omega),hr1.out]);have hendb:((p1:Int) == (s.size:Int)) = true:=by rw [beq_iff_eq]; omega
       have hP:=Hd (show PolX X w6.drew ra2 rc2 acc2 from OwnT.pol (w:=w6.drew) ho6 (hA6) hX.out);have z0:=Blk.cell hR6 0; have z1:=Blk.cell hR6 1; have z2:=Blk.cell hR6 2; have z3:=Blk.cell hR6 3; have z4:=Blk.cell hR6 4;have hl9:=Blk.lt hR6;have hR9:=Hd (show RdA w6.drew g s mb p1 0 0 from hR6);have hf9:=Hd (show Fg g w w6.drew from hf6.call (brf.drew));replace hend:=Hd hend;clear hR6 hf6 hA6 ho6;go_wp2;refine wp_region_mix (S:=(fun x=>x = w6.drew)) [(0,.q),(1,.q),(2,.q),(3,.q),(4,.q),(5,.q),(6,.q),(7,.q),(8,.q),(9,.q),(10,.q),(11,.q),(12,.q),(13,.q),(14,.q),(15,.p),(16,.p)] (by kernel_rfl) (by kernel_rfl) (by kernel_rfl) (fun d _ _ _ _ h=>by cases d <;> exact h) (rfl) ?_
       iterate 15 (refine wpMix_q rfl rfl (fun K hK=>?_); apply Exists.intro; refine ⟨fun w' hw'=>?_,?_⟩; (focus (go_simp; try rfl)); go_simp; refine hK _ _ ?_; clear hK K)
       iterate 2 (refine wpMix_p rfl rfl (fun K hK=>?_); apply Exists.intro; refine ⟨fun w'=>?_,?_⟩; (focus (go_simp; try rfl)); go_simp; refine hK _ _ ?_; clear hK K)
       refine wpMix_nil ?_;go_wp2;go_ret;exact ⟨_,_,_,rfl,fun L r e=>(by injection hGe.out.symm.trans e with e1 e2; subst e1; exact ⟨ha2.out.2.1.symm,hP.out,ha2.out.2.2⟩),by rw [hGe.out]; exact ⟨p1,hp1,rfl,hR9.out⟩,hf9.out⟩
      ·
       have hendb:((p1:Int) == (s.size:Int)) = false:=by rw [beq_eq_false_iff_ne]; omega
       have hG3:=Hd (show SG = (sepG (tl s p1)).bnd fun ng' r'=>sumG names f ng' acc2 r' from by rw [hG2.out,if_neg (by rw [hr1.out,tl_len]; omega),hr1.out]);have HC:=Hd (fun W (hW:Fg g w6 W)=>(⟨own_fr ho6 hW hlg.out,hA6.step (hW.agr.mono fun b hb=>.inl (hXg.out b hb)),hf6.trans hW⟩:OwnT w.heap.size W ra2 rc2 lo2 /\ AllT (Xr X ra2) W lo2 acc2 /\ Fg g w W));have z0:=Blk.cell hR6 0; have z1:=Blk.cell hR6 1; have z2:=Blk.cell hR6 2; have z3:=Blk.cell hR6 3; have z4:=Blk.cell hR6 4;have hl9:=Blk.lt hR6;have hR7:RdA w6.drew g s mb p1 0 0:=hR6;have hf7:Fg g w6 w6.drew:=Fr.below (brf.drew);have C1:=Hd (take_any g mb p1 s 32 32 rfl w6.drew hR7 hp1 hs);replace hf7:=Hd hf7;clear hR6 hf6 hA6 ho6 hR7 hG2;go_wp2
       refine wp_region_mix (S:=(fun x=>x = w6.drew)) [(0,.q),(1,.q),(2,.q),(3,.q),(4,.q),(5,.q),(6,.q),(7,.q),(8,.q),(9,.q),(10,.q),(11,.q),(12,.q),(13,.q),(14,.q),(15,.p),(16,.p)] (by kernel_rfl) (by kernel_rfl) (by kernel_rfl) (fun d _ _ _ _ h=>by cases d <;> exact h) (rfl) ?_
       iterate 15 (refine wpMix_q rfl rfl (fun K hK=>?_); apply Exists.intro; refine ⟨fun w' hw'=>?_,?_⟩; (focus (go_simp; try rfl)); go_simp; refine hK _ _ ?_; clear hK K)
       iterate 2 (refine wpMix_p rfl rfl (fun K hK=>?_); apply Exists.intro; refine ⟨fun w'=>?_,?_⟩; (focus (go_simp; try rfl)); go_simp; refine hK _ _ ?_; clear hK K)
       refine wpMix_nil ?_;go_wp2_with fail;refine C1.out.mono ?_;rintro e w8 ⟨rfl,hS8,hf8'⟩;have hf8:=hf7.out.trans hf8';clear C1 hf8' hf7 z0 z1 z2 z3 z4 hl9;have hsp:sepG (tl s p1) = (eatG 32 (tl s p1)).bnd fun _ r=>if r[0]? = some 45 then (eatG 32 (r.drop 1)).bnd fun _ r'=>.ok true r' else (eatG 43 r).bnd fun _ r1=>(eatG 32 r1).bnd fun _ r2=>.ok false r2:=rfl
       obtain ⟨E1,hE1⟩:∃ G,eatG 32 (tl s p1) = G:=⟨_,rfl⟩
       have hl1:=Hd (fun r (e:E1 = .ok () r)=>eatG_less (hE1.trans e));rw [hE1] at hsp hS8;have hG4:=Hd (hG3.out.trans (congrArg (fun z:Got Bool=>z.bnd fun ng' r'=>sumG names f ng' acc2 r') hsp));clear hG3 hsp hE1
       cases E1 with
       | bad k er =>
        have hGe:=Hd (show SG = .bad k er from hG4.out);obtain ⟨pe,hpe,hke,h0e,hRe⟩:=(hS8:StE w8 g s mb k er)
        have CP:=Hd (peek_any g mb pe s er ((s.size - k:Nat):Int) 45 w8 hRe hpe hs);obtain ⟨bq,hbq⟩:∃ b,nxtB (tl s pe) 45 = b:=⟨_,rfl⟩
        rw [hbq] at CP;replace h0e:=Hd h0e;clear hbq hG4;go_wp2_with fail;refine CP.out.mono ?_;rintro e w9 ⟨rfl,hb9⟩;have hR9:=hRe.below hb9;have hf9:=hf8.call hb9;have T1:=Hd (fun z=>take_no g mb pe s z er ((s.size - k:Nat):Int) w9 hR9 h0e.out);have hSE9':=Hd (show StE w9 g s mb k er from ⟨pe,hpe,hke,h0e.out,hR9⟩);have hF9:=Hd (HC.out w9 hf9).2.2;clear CP hRe hb9 hR9 hf9 hf8
        cases bq
        ·
         go_wp2_with fail;refine (T1.out 43).mono ?_;rintro e w' ⟨rfl,rfl⟩;go_wp2_with fail;refine (T1.out 32).mono ?_;rintro e w' ⟨rfl,rfl⟩;have hSE9:=hSE9'.out
         -- nothing is returned: in world W9_,behind an error (hGe:SG = .bad k er)
         obtain ⟨pe,hpe,hke,h0e,hRe⟩:=hSE9;have hzE:(er == 0) = false:=by rw [beq_eq_false_iff_ne]; exact h0e
         have hzE2:(er != 0) = true:=by rw [bne,hzE]; rfl
         have z0:=Blk.cell hRe 0; have z1:=Blk.cell hRe 1; have z2:=Blk.cell hRe 2; have z3:=Blk.cell hRe 3; have z4:=Blk.cell hRe 4;have hl9:=Blk.lt hRe;have hRe9:=Hd hRe;replace h0e:=Hd h0e;clear hRe;go_wp2;go_ret;exact ⟨none,0,0,rfl,fun L r e=>(by cases hGe.out.symm.trans e),by rw [hGe.out]; exact ⟨pe,hpe,hke,h0e.out,hRe9.out⟩,hF9.out⟩
        ·
         go_wp2_with fail;refine (T1.out 45).mono ?_;rintro e w' ⟨rfl,rfl⟩;go_wp2_with fail;refine (T1.out 32).mono ?_;rintro e w' ⟨rfl,rfl⟩;have hSE9:=hSE9'.out
         -- nothing is returned: in world W9_,behind an error (hGe:SG = .bad k er)
         obtain ⟨pe,hpe,hke,h0e,hRe⟩:=hSE9;have hzE:(er == 0) = false:=by rw [beq_eq_false_iff_ne]; exact h0e
         have hzE2:(er != 0) = true:=by rw [bne,hzE]; rfl
         have z0:=Blk.cell hRe 0; have z1:=Blk.cell hRe 1; have z2:=Blk.cell hRe 2; have z3:=Blk.cell hRe 3; have z4:=Blk.cell hRe 4;have hl9:=Blk.lt hRe;have hRe9:=Hd hRe;replace h0e:=Hd h0e;clear hRe;go_wp2;go_ret;exact ⟨none,0,0,rfl,fun L r e=>(by cases hGe.out.symm.trans e),by rw [hGe.out]; exact ⟨pe,hpe,hke,h0e.out,hRe9.out⟩,hF9.out⟩
       | ok uu r2 =>
        obtain ⟨p2,hp2,hr2,hR8⟩:=(hS8:StR w8 g s mb r2)
        have hlt2:=hl1.out r2 rfl;rw [hr2,tl_len,tl_len] at hlt2;have hG5:SG = (if r2[0]? = some 45 then (eatG 32 (r2.drop 1)).bnd fun _ r'=>.ok true r' else (eatG 43 r2).bnd fun _ r1=>(eatG 32 r1).bnd fun _ r2=>(.ok false r2:Got Bool)).bnd fun ng' r'=>sumG names f ng' acc2 r':=hG4.out
        rw [hr2] at hG5;have CP:=Hd (peek_any g mb p2 s 0 0 45 w8 hR8 hp2 hs);have hst:=nxtB_is (tl s p2) 45 (z:=45) rfl;obtain ⟨bq,hbq⟩:∃ b,nxtB (tl s p2) 45 = b:=⟨_,rfl⟩
        rw [hbq] at CP hst;replace hbq:=Hd hbq; replace hst:=Hd hst; replace hG5:=Hd hG5; replace hr2:=Hd hr2;clear hG4;go_wp2_with fail;refine CP.out.mono ?_;rintro e w9 ⟨rfl,hb9⟩;have hR9:=hR8.below hb9;have hf9:=hf8.call hb9;clear CP hR8 hb9 hf8
        cases bq
        ·
         have h45:¬ (tl s p2)[0]? = some 45:=by have:=hst.out; simpa using this.symm
         have hG6:=hG5.out;rw [if_neg h45] at hG6;have C2:=Hd (take_any g mb p2 s 43 43 rfl w9 hR9 hp2 hs);obtain ⟨E2,hE2⟩:∃ G,eatG 43 (tl s p2) = G:=⟨_,rfl⟩
         have hl2:=Hd (fun r (e:E2 = .ok () r)=>eatG_less (hE2.trans e));rw [hE2] at C2 hG6;replace hG6:=Hd hG6;clear hE2 h45 hR9;go_wp2_with fail;refine C2.out.mono ?_;rintro e w10 ⟨rfl,hS10,hf10'⟩;have hf10:=hf9.trans hf10';clear C2 hf9 hf10'
         cases E2 with
         | bad k er =>
          have hGe:=Hd (show SG = .bad k er from hG6.out);obtain ⟨pe,hpe,hke,h0e,hRe⟩:=(hS10:StE w10 g s mb k er)
          have T1:=Hd (fun z=>take_no g mb pe s z er ((s.size - k:Nat):Int) w10 hRe h0e);have hSE9':=Hd (show StE w10 g s mb k er from ⟨pe,hpe,hke,h0e,hRe⟩);have hF9:=Hd (HC.out w10 hf10).2.2;clear hRe hf10 h0e;go_wp2_with fail;refine (T1.out 32).mono ?_;rintro e w' ⟨rfl,rfl⟩;have hSE9:=hSE9'.out
          -- nothing is returned: in world W9_,behind an error (hGe:SG = .bad k er)
          obtain ⟨pe,hpe,hke,h0e,hRe⟩:=hSE9;have hzE:(er == 0) = false:=by rw [beq_eq_false_iff_ne]; exact h0e
          have hzE2:(er != 0) = true:=by rw [bne,hzE]; rfl
          have z0:=Blk.cell hRe 0; have z1:=Blk.cell hRe 1; have z2:=Blk.cell hRe 2; have z3:=Blk.cell hRe 3; have z4:=Blk.cell hRe 4;have hl9:=Blk.lt hRe;have hRe9:=Hd hRe;replace h0e:=Hd h0e;clear hRe;go_wp2;go_ret;exact ⟨none,0,0,rfl,fun L r e=>(by cases hGe.out.symm.trans e),by rw [hGe.out]; exact ⟨pe,hpe,hke,h0e.out,hRe9.out⟩,hF9.out⟩
         | ok uu r3 =>
          obtain ⟨p3,hp3,hr3,hR10⟩:=(hS10:StR w10 g s mb r3)
          have hlt3:=hl2.out r3 rfl;rw [hr3,tl_len,tl_len] at hlt3;have hG7:SG = ((eatG 32 r3).bnd fun _ r2=>(.ok false r2:Got Bool)).bnd fun ng' r'=>sumG names f ng' acc2 r':=hG6.out
          rw [hr3] at hG7;clear hG6 hr3
          -- the blank behind the sign
          have C3:=Hd (take_any g mb p3 s 32 32 rfl w10 hR10 hp3 hs);obtain ⟨E3,hE3⟩:∃ G,eatG 32 (tl s p3) = G:=⟨_,rfl⟩
          have hl3:=Hd (fun r (e:E3 = .ok () r)=>eatG_less (hE3.trans e));rw [hE3] at C3 hG7;replace C3:=Hd C3.out;clear hE3 hR10;go_wp2_with fail;refine C3.out.mono ?_;rintro e w11 ⟨rfl,hS11,hf11'⟩;have hf11:=hf10.trans hf11';clear C3 hf10 hf11'
          cases E3 with
          | bad k er =>
           have hGe:=Hd (show SG = .bad k er from hG7);have hSE9:StE w11 g s mb k er:=hS11;have hF9:=Hd (HC.out w11 hf11).2.2;clear hS11 hf11 hG7
           -- nothing is returned: in world W9_,behind an error (hGe:SG = .bad k er)
           obtain ⟨pe,hpe,hke,h0e,hRe⟩:=hSE9;have hzE:(er == 0) = false:=by rw [beq_eq_false_iff_ne]; exact h0e
           have hzE2:(er != 0) = true:=by rw [bne,hzE]; rfl
           have z0:=Blk.cell hRe 0; have z1:=Blk.cell hRe 1; have z2:=Blk.cell hRe 2; have z3:=Blk.cell hRe 3; have z4:=Blk.cell hRe 4;have hl9:=Blk.lt hRe;have hRe9:=Hd hRe;replace h0e:=Hd h0e;clear hRe;go_wp2;go_ret;exact ⟨none,0,0,rfl,fun L r e=>(by cases hGe.out.symm.trans e),by rw [hGe.out]; exact ⟨pe,hpe,hke,h0e.out,hRe9.out⟩,hF9.out⟩
          | ok uu r4 =>
           obtain ⟨p4,hp4,hr4,hR11⟩:=(hS11:StR w11 g s mb r4)
           have hlt4:=hl3.out r4 rfl;rw [hr4,tl_len,tl_len] at hlt4;have hG8:=Hd (show SG = sumG names f false acc2 (tl s p4) from by rw [<- hr4]; exact hG7);have z0:=Blk.cell hR11 0; have z1:=Blk.cell hR11 1; have z2:=Blk.cell hR11 2; have z3:=Blk.cell hR11 3; have z4:=Blk.cell hR11 4;have hl11:=Blk.lt hR11;have hC2:=Hd (HC.out w11 hf11);have hR12:=Hd hR11;have hm:=Hd (show s.size - p4 < s.size - p /\ s.size - p4 + 1 <= s.size - p from by have:=hlt3; have:=hlr.out; omega);clear hf11 hG7 hr4 hR11;go_wp2;go_roundg (s.size - p4 + 1)
           case rel=>exact ⟨p4,f,false,acc2,lo2,ra2,rc2,rfl,rfl,hp4,Nat.lt_succ_self _,by show (tl s p4).length < f; have:=hm.out; have:=hf.out; rw [tl_len] at this ⊢; omega,hR12.out,hC2.out.1,hC2.out.2.1,ha2.out,hG8.out,hC2.out.2.2⟩
           case measure=>have:=hm.out; have:=hgk.out; omega
        ·
         have h45:(tl s p2)[0]? = some 45:=by have:=hst.out; simpa using this.symm
         have hG6:=hG5.out;rw [if_pos h45,tl_drop] at hG6;have hp2l:p2 < s.size:=by
          apply Nat.lt_of_not_le;intro hle;rw [tl_end hle] at h45
          cases h45
         have hE2:eatG 45 (tl s p2) = .ok () (tl s (p2 + 1)):=by unfold eatG; rw [if_pos h45,tl_drop]
         have C2:=take_any g mb p2 s 45 45 rfl w9 hR9 hp2 hs;rw [hE2] at C2;replace C2:=Hd C2; replace hG6:=Hd hG6;clear hE2 h45 hR9;go_wp2_with fail;refine C2.out.mono ?_;rintro e w10 ⟨rfl,hS10,hf10'⟩;have hf10:=hf9.trans hf10';obtain ⟨p3,hp3,hr3,hR10⟩:=(hS10:StR w10 g s mb (tl s (p2 + 1)))
         have hlt3:s.size - p3 < s.size - p2:=by have:=congrArg List.length hr3; rw [tl_len,tl_len] at this; omega
         have hG7:=hG6.out;rw [hr3] at hG7;clear C2 hf9 hf10' hG6 hr3
         -- the blank behind the sign
         have C3:=Hd (take_any g mb p3 s 32 32 rfl w10 hR10 hp3 hs);obtain ⟨E3,hE3⟩:∃ G,eatG 32 (tl s p3) = G:=⟨_,rfl⟩
         have hl3:=Hd (fun r (e:E3 = .ok () r)=>eatG_less (hE3.trans e));rw [hE3] at C3 hG7;replace C3:=Hd C3.out;clear hE3 hR10;go_wp2_with fail;refine C3.out.mono ?_;rintro e w11 ⟨rfl,hS11,hf11'⟩;have hf11:=hf10.trans hf11';clear C3 hf10 hf11'
         cases E3 with
         | bad k er =>
          have hGe:=Hd (show SG = .bad k er from hG7);have hSE9:StE w11 g s mb k er:=hS11;have hF9:=Hd (HC.out w11 hf11).2.2;clear hS11 hf11 hG7
          -- nothing is returned: in world W9_,behind an error (hGe:SG = .bad k er)
          obtain ⟨pe,hpe,hke,h0e,hRe⟩:=hSE9;have hzE:(er == 0) = false:=by rw [beq_eq_false_iff_ne]; exact h0e
          have hzE2:(er != 0) = true:=by rw [bne,hzE]; rfl
          have z0:=Blk.cell hRe 0; have z1:=Blk.cell hRe 1; have z2:=Blk.cell hRe 2; have z3:=Blk.cell hRe 3; have z4:=Blk.cell hRe 4;have hl9:=Blk.lt hRe;have hRe9:=Hd hRe;replace h0e:=Hd h0e;clear hRe;go_wp2;go_ret;exact ⟨none,0,0,rfl,fun L r e=>(by cases hGe.out.symm.trans e),by rw [hGe.out]; exact ⟨pe,hpe,hke,h0e.out,hRe9.out⟩,hF9.out⟩
         | ok uu r4 =>
          obtain ⟨p4,hp4,hr4,hR11⟩:=(hS11:StR w11 g s mb r4)
          have hlt4:=hl3.out r4 rfl;rw [hr4,tl_len,tl_len] at hlt4;have hG8:=Hd (show SG = sumG names f true acc2 (tl s p4) from by rw [<- hr4]; exact hG7);have z0:=Blk.cell hR11 0; have z1:=Blk.cell hR11 1; have z2:=Blk.cell hR11 2; have z3:=Blk.cell hR11 3; have z4:=Blk.cell hR11 4;have hl11:=Blk.lt hR11;have hC2:=Hd (HC.out w11 hf11);have hR12:=Hd hR11;have hm:=Hd (show s.size - p4 < s.size - p /\ s.size - p4 + 1 <= s.size - p from by have:=hlt3; have:=hlr.out; omega);clear hf11 hG7 hr4 hR11;go_wp2;go_roundg (s.size - p4 + 1)
          case rel=>exact ⟨p4,f,true,acc2,lo2,ra2,rc2,rfl,rfl,hp4,Nat.lt_succ_self _,by show (tl s p4).length < f; have:=hm.out; have:=hf.out; rw [tl_len] at this ⊢; omega,hR12.out,hC2.out.1,hC2.out.2.1,ha2.out,hG8.out,hC2.out.2.2⟩
          case measure=>have:=hm.out; have:=hgk.out; omega
abbrev Vr:=Int × Int × Int
abbrev Vec:=List Tm × List Tm
structure Frm where
 vars:List Vr
 coords:List Vec
 free:Nat
theorem singleS_p (X:Nat -> Prop) (x:QA) (q:Rat) (m:List Int) (a:Option Addr) (ca:Nat) (w:World) (hX:∀ b,X b -> b < w.heap.size) (hx:Rd X w fun V=>QAc V x q) (hq:qsz q <= 1000) (h0:q ≠ 0) (hm:Rd X w fun V=>IntsR V a ca m) :
  Calls Tryz.prog 74 #[.agg #[.bool x.neg,.slice x.a x.n x.c,.slice x.b x.m x.d],.slice a m.length ca] w (RetP X [(q,m)] w):=by
 have CS:=fun W (hW:Below w.heap.size w W)=>sign_q x q 1000 W ⟨(hx.call hW).now,hq⟩ (by omega)
 have hsg:=sgnQ_eq q;rw [decide_eq_false h0] at hsg;obtain ⟨t,ht⟩:∃ t:TQ,t = ⟨x,m.length,a,ca⟩:=⟨_,rfl⟩
 have hR:Rd X w (t.R (q,m)):=by rw [ht]; exact (hx.and hm).imp fun V h=>⟨h.1,h.2,rfl⟩
 have e1:x = t.x:=by rw [ht]
 have e2:m.length = t.n:=by rw [ht]
 have e3:a = t.a:=by rw [ht]
 have e4:ca = t.c:=by rw [ht]
 rw [e1] at CS;rw [e1,e2,e3,e4];obtain ⟨S0,hS0⟩:∃ S0,sgnQ q = S0:=⟨_,rfl⟩
 rw [hS0] at CS hsg;clear hS0;replace CS:=Hd CS; replace hR:=Hd hR; replace hX:=Hd hX;clear hx hq hm h0 ht e1 e2 e3 e4;go_enter Tryz.func74,Tryz.ntmps74;go_wp2_with fail;refine calls_gen (fun W=>Blk W w.heap.size 54 #[.bool t.x.neg,.slice t.x.a t.x.n t.x.c,.slice t.x.b t.x.m t.x.d] /\ Below w.heap.size w W) ⟨by ((with_reducible repeat first|assumption|(apply bF;focus omega)|apply bS|(apply bN;focus (simp;done))|apply bA|apply bD);all_goals rfl),by go_grown⟩ ?_;rintro w0 ⟨hz,hw0⟩;refine (CS.out _ hw0).mono ?_;rintro e w1 ⟨rfl,hb1⟩;replace hz:=hz.below' hb1;have hw1:=bth hw0 hb1;have z0:=hz.cell 0; have z1:=hz.cell 1; have z2:=hz.cell 2;have hP:PolX X (w1.alloc (.cells #[.bool t.x.neg,.slice t.x.a t.x.n t.x.c,.slice t.x.b t.x.m t.x.d,.slice t.a t.n t.c] 57)) (some ⟨w1.heap.size,0,none⟩) 1 [(q,m)]:=by
  refine ⟨[t],fun V hV=>⟨by simp,by simp [maxLen],fun k s hk=>?_⟩,AllT.one ((hR.out.call hw1).alloc _)⟩
  cases k with
  | zero =>
   simp at hk;subst hk;have hA:TQ.At t (w1.alloc (.cells #[.bool t.x.neg,.slice t.x.a t.x.n t.x.c,.slice t.x.b t.x.m t.x.d,.slice t.a t.n t.c] 57)) w1.heap.size 0:=At.new;have hn:¬ X w1.heap.size:=fun h=>by have:=hX.out _ h; have:=hw1.size; omega
   exact ⟨_,0,rfl,hV _ _ hn hA.1,hV _ _ hn hA.2.1,hV _ _ hn hA.2.2.1,hV _ _ hn hA.2.2.2⟩
  | succ k=>simp at hk
 replace hP:=Hd hP;go_wp2;go_ret;exact ⟨_,1,rfl,hP.out,hw1.alloc hw1.size _⟩
structure PQ where
 n:Nat
 a:Option Addr
 c:Nat
def PQ.cs (s:PQ):List Value:=[.slice s.a s.n s.c]
theorem PQ.cs_len (s:PQ):s.cs.length = 1:=rfl
theorem PQ.cs_one (s:PQ):∀ u ∈ s.cs,u.oneCell' = true:=by simp [PQ.cs,Value.oneCell']
abbrev OwnPq (B:Nat) (w:World) (a:Option Addr) (c:Nat) (l:List PQ):Prop:=Own PQ.cs 1 23 B w a c l
theorem infoPq:(Tryz.prog.info? 23).map (fun i=>(i.zero,i.size,i.bytes)) = some (some (.slice none 0 0),1,24):=by kernel_rfl
theorem sum0_p (X:Nat -> Prop) (a:Option Addr) (c:Nat) (w:World):Calls Tryz.prog 77 #[.slice a 0 c] w (RetP X [] w):=by
 go_enter Tryz.func77,Tryz.ntmps77;go_wp2;go_ret;exact ⟨none,0,rfl,PolX.nil,Below.refl _ _⟩
theorem sum1_p (X:Nat -> Prop) (p:List Tm) (b o c:Nat) (a1:Option Addr) (c1:Nat) (w:World) (hc:w.cell? ⟨b,o,none⟩ = some (.slice a1 p.length c1)) (hp:PolX X w a1 c1 p):Calls Tryz.prog 77 #[.slice (some ⟨b,o,none⟩) 1 c] w (RetP X p w):=by
 have HP:=Hd hp;clear hp;go_enter Tryz.func77,Tryz.ntmps77;go_wp2;go_ret;exact ⟨a1,c1,rfl,HP.out,Below.refl _ _⟩
theorem halves_nil:halvesP [] = []:=by rw [halvesP]; rfl
theorem halves_one (p:List Tm):halvesP [p] = p:=by rw [halvesP]; rfl
end Go.Proofs.YtkjnkpkagcboeaaGreatDoor
