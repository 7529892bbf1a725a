/- Walks: the program's other operations on polynomials: Scale, Neg, Sub, Var, Mul where one side has at most one term. -/
import Derived.Test.YtfaalkneigpcnaaGreatDoorIt10
import Derived.Test.YtfaalkneigpcnaaGreatDoorIt3
import Derived.Test.YtfaalkneigpcnaaGreatDoorIt6
import Derived.Deep.LoopGhost
import Derived.Test.YtfaalkneigpcnaaGreatDoorIt9
import Derived.Test.YtfaalkneigpcnaaGreatDoorIt12
set_option linter.all false
set_option maxRecDepth 100000
set_option maxHeartbeats 4000000
namespace Go.Proofs.YtfaalkneigpcnaaGreatDoor
open Go.RowKit
theorem qhf {α:Type} {sz:Nat} {E:World->Nat->Nat->α->Prop} {w:World} {c:Nat} {l:List α} (h:SlR sz E w none c l):l=[]:=by
 cases l with
 | nil=>rfl
 | cons x l=>obtain ⟨b,off,e,_⟩:=h.2.2 0 x rfl;cases e
theorem qic (l:List Int) (a:Option Addr) (c:Nat) (w:World) (h:NatR w a c l) (hl:l.length<=16777216) :
  Calls Tryz.prog 45 #[.slice a l.length c] w (RetN l w):=by
 have hu:=h.u16
 cases a with
 | none =>
  have hn:l=[]:=qhf h;subst hn;clear h hl hu;have q43:∀ (w:World) (a:Option Addr) (n c n' c':Nat),(binOp .eql 47 (.slice a n c) (.slice none n' c')).run Tryz.prog w=.ok (.bool a.isNone) w:=fun w a n c n' c'=>Lib.run_eql_slice_nil w _ _ a n c n' c' Tryz.underlying47
  go_enter Tryz.func45,Tryz.ntmps45;go_wp2;go_ret;exact ⟨none,0,rfl,fun V _=>SlR.nil,Below.refl _ _⟩
 | some p =>
  have H:=Hd h;have hlen:=h.len;replace hu:=Hd hu;clear h;have q43:∀ (w:World) (a:Option Addr) (n c n' c':Nat),(binOp .eql 47 (.slice a n c) (.slice none n' c')).run Tryz.prog w=.ok (.bool a.isNone) w:=fun w a n c n' c'=>Lib.run_eql_slice_nil w _ _ a n c n' c' Tryz.underlying47
  have u43:∀ w,Sem.run Tryz.prog (underlying 47) w=.ok (TypeDesc.slice 102) w:=run_underlying Tryz.underlying47;have hown:OwnN w.heap.size (w.alloc (.cells #[] 102)) (some ⟨w.heap.size,0,none⟩) 0 []:=World.ownsRow_made w #[] 0 (nlr _) (Nat.zero_le _) rfl;have hr:=H.out.ext (qco w (.cells #[] 102));have hb:Below w.heap.size w (w.alloc (.cells #[] 102)):=by go_grown
  replace hown:=Hd hown;replace hr:=Hd hr;replace hb:=Hd hb;go_enter Tryz.func45,Tryz.ntmps45;go_wp2_with (at_builtin;go_must (refine qcw rfl (.tmp 5) (.tmp 6) rfl _ _ rfl hown.out (m:=l) _ _ rfl hr.out l rfl (by omega) (by simp) ?_;intro a2 c2 w2 ho2 hg2 hb2));go_ret;exact ⟨a2,c2,rfl,fun V hV=>ho2.readsV hV hu.out,hb.out.grown hg2 (by simp) (by simp [Value.ownBlock])⟩
theorem qom {B:Nat} {w:World} {l m:List Bool} {ops:Array Oper} {rest:List Oper} {o:Oper} {act:Act} {Q:Exit->Act->World->Prop} (hgd:o.guard=none) (s y:Operand)
  (ho:o.op=.call { callee:=.builtin .append,args:=#[s,y],argTypes:=#[32,32] })
  (a:Option Addr) (c:Nat) (hs:act.eval s=.slice a l.length c) (hown:OwnB B w a c l)
  (am:Option Addr) (cm:Nat) (hy:act.eval y=.slice am m.length cm) (hr:BosR w am cm m)
  (l2:List Bool) (hl2:l2=l++m) (hlen:l2.length<=16777216) (hB:B<=w.heap.size)
  (h:∀ a' c' w',OwnB B w' a' c' l2->w.grownBy w' (Value.ownBlock (.slice a l.length c))->Below B w w' ->
   wpList Tryz.prog ops Q rest (act.put o.dst (.slice a' l2.length c')) w'):wpList Tryz.prog ops Q (o :: rest) act w :=
 wpList_plain hgd fun _ hK=>qhr s y 32 ho Tryz.underlying32 qw0 rfl (by omega) (by omega) qn1 a c hs hown (fun x _=>qvs x) am cm hy
  (fun k x hx=>by
   obtain ⟨b,off,e,hc⟩:=hr.2.2 k x hx;refine ⟨b,off,e,fun j u hu=>?_⟩
   match j,hu with
   | 0,hu=>simp [boC] at hu;subst hu;simpa [BoolE] using hc) l2 hl2 hlen hB fun a' c' w' h1 h2 h3=>hK _ _ (h a' c' w' h1 h2 h3)
def RetB (l:List Bool) (w:World) (e:Ending) (w':World):Prop:=∃ a c,e=.returned (.slice a l.length c)/\Kp (fun V=>BosR V a c l) w.heap.size w'.heap.size w'/\Below w.heap.size w w'
theorem qp9 (l:List Bool) (a:Option Addr) (c:Nat) (w:World) (h:BosR w a c l) (hl:l.length<=1000000) :
  Calls Tryz.prog 25 #[.slice a l.length c] w (RetB l w):=by
 cases a with
 | none =>
  have hn:l=[]:=qhf h;subst hn;clear h hl;have q43:∀ (w:World) (a:Option Addr) (n c n' c':Nat),(binOp .eql 32 (.slice a n c) (.slice none n' c')).run Tryz.prog w=.ok (.bool a.isNone) w:=fun w a n c n' c'=>Lib.run_eql_slice_nil w _ _ a n c n' c' Tryz.underlying32
  go_enter Tryz.func25,Tryz.ntmps25;go_wp2;go_ret;exact ⟨none,0,rfl,Kp.made fun V _=>SlR.nil,Below.refl _ _⟩
 | some p =>
  have H:=Hd h;have hlen:=h.len;clear h;have q43:∀ (w:World) (a:Option Addr) (n c n' c':Nat),(binOp .eql 32 (.slice a n c) (.slice none n' c')).run Tryz.prog w=.ok (.bool a.isNone) w:=fun w a n c n' c'=>Lib.run_eql_slice_nil w _ _ a n c n' c' Tryz.underlying32
  have u43:∀ w,Sem.run Tryz.prog (underlying 32) w=.ok (TypeDesc.slice 4) w:=run_underlying Tryz.underlying32;have hown:OwnB w.heap.size (w.alloc (.cells #[] 4)) (some ⟨w.heap.size,0,none⟩) 0 []:=World.ownsRow_made w #[] 0 (nlr _) (Nat.zero_le _) rfl;have hr:=BosR.ext H.out (qco w (.cells #[] 4));have hb:Below w.heap.size w (w.alloc (.cells #[] 4)):=by go_grown
  replace hown:=Hd hown;replace hr:=Hd hr;replace hb:=Hd hb;go_enter Tryz.func25,Tryz.ntmps25;go_wp2_with (at_builtin;go_must (refine qom rfl (.tmp 5) (.tmp 6) rfl _ _ rfl hown.out (m:=l) _ _ rfl hr.out l rfl (by omega) (by simp) ?_;intro a2 c2 w2 ho2 hg2 hb2));go_ret;exact ⟨a2,c2,rfl,Kp.made fun V hV=>Own.readsX (X:=fun b=>b<w.heap.size) l rfl qn1 ho2 (fun p v hp hc=>hV p v (Nat.le_of_not_lt hp) hc) (fun g hg hlt=>by have:=(ho2.lt hg).1;omega) fun b o k x y h1 h2 hc=>by (rw [h1] at h2;injection h2 with h2;subst h2;have e:=hc 0 _ rfl;rw [Nat.add_zero] at e;exact e),hb.out.grown hg2 (by simp) (by simp [Value.ownBlock])⟩
theorem qkt (vals:List Rat) (a:Option Addr) (c:Nat) (w:World) (h:QsR w a c vals) (hl:vals.length<=1000) (hk:∀ q∈vals,qsz q<=1000000) :
  Calls Tryz.prog 24 #[.slice a vals.length c] w fun e w'=>∃ a' c',e=.returned (.slice a' vals.length c')/\Kp (fun V=>QsR V a' c' vals) w.heap.size w'.heap.size w'/\Below w.heap.size w w'/\(∀ g:Addr,a'=some g->w.heap.size<=g.block/\g.block<w'.heap.size):=by
 have H:=Hd h;have hlen:=SlR.len h;replace hk:=Hd hk;clear h;go_enter Tryz.func24,Tryz.ntmps24;go_wp2
 go_loopg [3,5,8] vals.length (fun n s _ q wr=>∃ (k:Nat) (a1:Option Addr) (c1:Nat) (hs:List QA),Hid (k+n=vals.length)/\q=.int .i64 k/\s=.slice a1 k c1/\Hid (OwnQ w.heap.size wr a1 c1 hs)/\Hid (AllQ (Xr (fun b=>b<w.heap.size) a1) wr hs (vals.take k))/\Hid (Below w.heap.size w wr))
 case atStart=>exact ⟨0,none,0,[],by show _=_;omega,rfl,rfl,Own.nil,AllQ.nil,Below.refl _ _⟩
 case round =>
  obtain ⟨k,a1,c1,hs,hm,rfl,rfl,hQ,hA,hwr⟩:=hrel;have hsl:hs.length=k:=by rw [hA.out.1,List.length_take];have:=hm.out;omega
  replace hsl:=Hd hsl;by_cases hlt:k<vals.length
  ·
   obtain ⟨q,hq⟩:=qac hlt;obtain ⟨b,off,rfl,z,y0,y1,y2,hz⟩:=H.out.2.2 k q hq;have d0:=held y0 wr hwr.out;have d1:=held y1 wr hwr.out;have d2:=held y2 wr hwr.out;have hbl:b<wr.heap.size:=World.block_lt_of_cell? wr _ d0;have hzr:=hz.ext (xbw hwr.out);have hsz:=hk.out q (List.mem_of_getElem? hq);have htk:vals.take (k+1)=vals.take k++[q]:=qbh hq;obtain ⟨s,zn,za,zc,zm,zb,zd⟩:=z;obtain ⟨e1,e2,e3,r1,r2⟩:=hzr;dsimp only at e1 e2 e3 r1 r2 d0 d1 d2;have g1:=qbi q;have g2:=qbj q;have C1:=Hd (fun W (hW:Below wr.heap.size wr W)=>qic _ za zc W (r1.ext (xbw hW)) (by omega));have C2:=Hd (fun W (hW:Below wr.heap.size wr W)=>qic _ zb zd W (r2.ext (xbw hW)) (by omega));subst e2 e3;replace e1:=Hd e1;replace htk:=Hd htk;replace hq:=Hd hq;clear y0 y1 y2 hz r1 r2 g1 g2 hsz;go_wp2
   refine qab (fun W=>Blk W wr.heap.size 51 #[.bool s,.slice za (limbs q.num.natAbs).length zc,.slice zb (limbs q.den).length zd]/\Below wr.heap.size wr W/\wr.heap.size<W.heap.size) ⟨by ((with_reducible repeat first|assumption|(apply bF;focus omega)|apply bS|(apply bN;focus (simp;done))|apply bA|apply bD);all_goals rfl),by go_grown,by simp⟩ ?_;rintro w0 ⟨h0,hw0,hgl⟩;obtain ⟨g,hg⟩:∃ g,wr.heap.size=g:=⟨_,rfl⟩
   have hx0:Hid (Blk w0 g 51 #[.bool s,.slice za (limbs q.num.natAbs).length zc,.slice zb (limbs q.den).length zd]):=Hd (hg ▸ h0);rw [hg] at h0 hgl ⊢;replace hg:=Hd hg;have k0:=held (h0.cell 0);have k1:=held (h0.cell 1);have k2:=held (h0.cell 2);have s0:Below w0.heap.size w0 w0.drew:=brf.drew;clear d0 d1 d2;have hgB:wr.heap.size<=g:=by rw [<- hg.out];exact nlr _
   have hXlt:∀ b,(Xr (fun b=>b<w.heap.size) a1 b\/b=g)->b<w0.heap.size:=by
    rintro b ((hb | ⟨p,hp,rfl⟩) | rfl)
    · have:=hwr.out.size;have:=hw0.size;omega
    · have:=(hQ.out.lt hp).2;have:=hw0.size;omega
    · exact hgl
   replace hXlt:=Hd hXlt;refine wrx (S:=Below w0.heap.size w0) [(0,.q),(1,.q),(2,.q),(4,.q),(5,.q),(3,.l),(7,.p),(8,.p),(6,.t),(9,.t),(10,.p),(11,.t)] (s0) ?_
   iterate 5 (refine qam rfl rfl fun K hK=>xq ?_;go_simp;refine hK _ _ ?_;clear hK K)
   refine qaj rfl rfl (fun K hK=>?_);go_simp;refine (C1.out _ (bth hw0 s0)).mono ?_;rintro r w1 ⟨a5,c5,rfl,hV1,hb1⟩;dsimp only;refine hK.out _ _ (bth s0 hb1) (fun _=>?_);clear hK K;have s1:=bth s0 hb1;have HV1:=Hd hV1;clear hV1
   iterate 2 (refine qav rfl rfl fun K hK=>xp ?_;go_simp;refine hK _ _ ?_;clear hK K)
   refine qah rfl rfl (fun K hK=>?_);go_simp;refine (C2.out _ (bth hw0 s1)).mono ?_;rintro r w2 ⟨a6,c6,rfl,hV2,hb2⟩;dsimp only;refine hK.out _ _ ?_;clear hK K;have s2:=bth s1 hb2;have HV2:=Hd hV2;clear hV2;replace h0:=h0.below' s2;obtain ⟨x0,x1,x2⟩:=cq3 h0;obtain ⟨f0,f1,f2⟩:=fq3 h0;clear k0 k1 k2;refine qah rfl rfl (fun K hK=>?_);go_simp;refine hK.out _ _ ?_;clear hK K
   iterate 1 (refine qav rfl rfl fun K hK=>xp ?_;go_simp;refine hK _ _ ?_;clear hK K)
   refine qah rfl rfl (fun K hK=>?_);go_simp;refine hK.out _ _ ?_;clear hK K;refine qak ?_;have hx:Rd (fun b=>Xr (fun b=>b<w.heap.size) a1 b\/b=g) w2 fun V=>QAc V ⟨s,(limbs q.num.natAbs).length,a5,c5,(limbs q.den).length,a6,c6⟩ q :=
    (((Rd.made HV1.out fun b hb=>.inl (hXlt.out b hb)).call hb2).and (Rd.made HV2.out fun b hb=>.inl (ltl (hXlt.out b hb) s1.size))).imp fun V ⟨h1,h2⟩=>⟨e1.out,rfl,rfl,h1,h2⟩
   have hw2:=bth hw0 s2;have hsz2:=hw2.size;replace hx:=Hd hx;clear HV1 HV2 hb1 hb2 s0 s1 s2 hw0
   go_wp2_with (at_builtin;go_must (refine qab (fun W=>Blk W w2.heap.size 51 #[.bool s,.slice a5 (limbs q.num.natAbs).length c5,.slice a6 (limbs q.den).length c6]/\Below wr.heap.size wr W/\Rd (fun b=>Xr (fun b=>b<w.heap.size) a1 b\/b=g) W fun V=>QAc V ⟨s,(limbs q.num.natAbs).length,a5,c5,(limbs q.den).length,a6,c6⟩ q) ⟨by ((with_reducible repeat first|assumption|(apply bF;focus omega)|apply bS|(apply bN;focus (simp;done))|apply bA|apply bD);all_goals rfl),by go_grown,Rd.alloc (Rd.setc (.inr rfl) (Rd.setc (.inr rfl) hx.out)) _⟩ ?_);rintro w4 ⟨hr,hb4,hx4⟩;have hQ4:=hQ.out.below hb4;go_must (refine qa7 (B:=w.heap.size) rfl (.tmp 22) (.tmp 24) 31 rfl Tryz.underlying31 qlh rfl (by omega) (by omega) qg2 a1 c1 (by rw [hsl.out];rfl) hQ4 ⟨s,(limbs q.num.natAbs).length,a5,c5,(limbs q.den).length,a6,c6⟩ (qoj _) w2.heap.size 1 rfl (fun j u hu=>by have e:=hr.cell j;rw [e];simpa [qaC] using hu) (hs++[⟨s,(limbs q.num.natAbs).length,a5,c5,(limbs q.den).length,a6,c6⟩]) rfl (by rw [List.length_append,hsl.out];simp;omega) (by have:=hwr.out.size;have:=hb4.size;omega) ?_);intro a7 c7 w5 ho5 hg5 ha5;have hb5:=qaq (bth hwr.out hb4) hQ4 hg5;have hA5:=(hA.out.call hb4).push (hx4.less fun b hb=>.inl hb) (fun R h=>h.app hg5 ha5);replace ho5:=Hd ho5;replace hb5:=Hd hb5;replace hA5:=Hd hA5;clear hr hb4 hg5 ha5 hQ4 hx4)
   have hln:(hs++[(⟨s,(limbs q.num.natAbs).length,a5,c5,(limbs q.den).length,a6,c6⟩:QA)]).length=k+1:=by rw [List.length_append,hsl.out];rfl
   go_roundg (gk-1)
   case rel=>exact ⟨k+1,a7,c7,_,by have:=hm.out;show _=_;omega,by go_num,by first | rfl | (congr 1;simpa using hln),ho5.out,by have e:=hA5.out;rw [<- htk.out] at e;exact e,hb5.out⟩
   case measure=>have:=hm.out;omega
  ·
   have hkn:k=vals.length:=by have:=hm.out;omega
   have hA2:=hA.out;rw [List.take_of_length_le (by omega)] at hA2;subst hkn;replace hA2:=Hd hA2;clear hA hm;go_wp2;refine bodyPost_ret (v:=.slice a1 vals.length c1) (by simp [results,Tryz.results24,go_sem]) rfl ?_;exact ⟨a1,c1,rfl,Kp.made fun V hV=>Own.readsX (X:=fun b=>b<w.heap.size) vals hA2.out.1.symm qg2 hQ.out (fun p v hp hc=>hV p v (Nat.le_of_not_lt hp) hc) (fun g hg hlt2=>by have:=(hQ.out.lt hg).1;omega) fun b o k x y h1 h2 hc=>⟨x,by simpa using hc 0 _ rfl,hc 1 _ rfl,hc 2 _ rfl,hA2.out.2 k x y h1 h2 V (fun p v hp hc=>hV p v (Nat.le_of_not_lt fun hl=>hp (.inl hl)) hc)⟩,hwr.out,fun g hg=>hQ.out.lt hg⟩
def RowZ (w:World) (g:Nat) (l:List Int):Prop:=Blk w g 3 (l.map (Value.int .i64)).toArray
section
variable {w w' : World} {g : Nat} {l : List Int}
theorem RowZ.lt (h:RowZ w g l):g<w.heap.size:=Blk.lt h
theorem RowZ.cell (h:RowZ w g l) {i:Nat} {x:Int} (hx:l[i]? = some x):w.cell? ⟨g,i,none⟩=some (.int .i64 x):=by
 rw [Blk.cell h i];simp [hx]
theorem RowZ.frozen (h:RowZ w g l) (i:Nat):w.frozen? ⟨g,i,none⟩=false:=Blk.frozen h i
theorem RowZ.set_ (h:RowZ w g l) (i:Nat) (x:Int):RowZ (w.setCell ⟨g,i,none⟩ (.int .i64 x)) g (l.set i x):=by
 have:=Blk.set_ h i (.int .i64 x);unfold RowZ;rw [List.setIfInBounds_toArray,<- List.map_set] at this;exact this
theorem RowZ.below (h:RowZ w g l) (hb:Below w.heap.size w w'):RowZ w' g l:=Blk.below' h hb
theorem RowZ.reads (h:RowZ w g l) (hs:∀ x∈l,InInt x) (hm:l.length<=maxLen) {B T:Nat} (hB:B<=g) (hT:g<T):Kp (fun V=>IntsR V (some ⟨g,0,none⟩) l.length l) B T w:=fun V hV =>
 ⟨nlr _,hm,fun k x hx=>⟨g,0,rfl,by simpa using hV _ _ (by simpa using hB) (by simpa using hT) (h.cell hx),wf_of (hs x (List.mem_of_getElem? hx))⟩⟩
end
theorem infoZ:(Tryz.prog.info? 3).map (fun i=>(i.zero,i.size,i.bytes))=some (some (.int .i64 0),1,8):=by kernel_rfl
theorem qqn (n:Nat):madeCells #[.int .i64 0] n=((List.replicate n (0:Int)).map (Value.int .i64)).toArray:=by
 apply Array.ext
 · simp [madeCells]
 ·
  intro i h1 h2;simp [madeCells,Nat.mod_one]
theorem qn6 (ts:TypeId) (hu:Tryz.prog.underlying ts=some (.slice 3)) (n:Nat) (hn:n<=1000000) (w:World) :
  (Instr.makeSlice ts (.int .i64 (n:Int)) (.int .i64 (n:Int))).run Tryz.prog w=.ok (.slice (some ⟨w.heap.size,0,none⟩) n n) (w.alloc (.cells (((List.replicate n (0:Int)).map (Value.int .i64)).toArray) 3)):=by
 obtain ⟨i,hi,hz,hsz,hby⟩:=info_parts infoZ;have:=run_makeSlice (w:=w) ts 3 i _ hu hi hz .i64 .i64 n n (by omega) (by omega) (by rw [hsz];simp;omega) (by rw [hby];omega) (by omega);rw [hsz] at this;simp only [Int.toNat_natCast,Nat.mul_one,Value.cells] at this;rw [qqn] at this;exact this
def partM (n:Nat) (f:Nat->Int) (k:Nat):List Int:=(List.range n).map fun v=>if v<k then f v else 0
theorem qpz (n:Nat) (f:Nat->Int):partM n f 0=List.replicate n 0:=by
 unfold partM;apply List.ext_getElem (by simp);intro i h1 h2;simp
theorem qrz {n:Nat} {f:Nat->Int} {k:Nat}:(partM n f k).set k (f k)=partM n f (k+1):=by
 unfold partM;apply List.ext_getElem (by simp);intro i h1 h2;rw [List.getElem_set];simp only [List.getElem_map,List.getElem_range];by_cases e:k=i
 · subst e;simp
 ·
  rw [if_neg e];by_cases h:i<k
  · rw [if_pos h,if_pos (by omega)]
  · rw [if_neg h,if_neg (by omega)]
theorem qqh {n:Nat} {f:Nat->Int} {k v:Nat} (hv:v<n):(partM n f k)[v]? = some (if v<k then f v else 0):=by
 unfold partM;rw [List.getElem?_map,List.getElem?_range hv]
 rfl
theorem qq5 (a b:List Int):partM (max a.length b.length) (fun v=>expAt a v+expAt b v) (max a.length b.length)=mulM a b:=by
 unfold partM mulM;refine List.map_congr_left fun v hv=>?_
 rw [if_pos (List.mem_range.1 hv)]
def RetMo (m:List Int) (w:World) (e:Ending) (w':World):Prop:=∃ a c,e=.returned (.slice a m.length c)/\Kp (fun V=>IntsR V a c m) w.heap.size w'.heap.size w'/\Below w.heap.size w w'
theorem qoe {w:World} {a:Option Addr} {c:Nat} {l:List Int} (h:IntsR w a c l) {k:Nat} {x:Int} (hx:l[k]? = some x):∃ b off,a=some ⟨b,off,none⟩/\w.cell? ⟨b,off+k,none⟩=some (.int .i64 x):=by
 obtain ⟨b,off,ha,hc⟩:=h.2.2 k x hx;exact ⟨b,off,ha,by simpa using hc.1⟩
theorem qu6 (x y:Int) (w:World) (h1:-4611686018427387904<=x/\x<=4611686018427387903) (h2:-4611686018427387904<=y/\y<=4611686018427387903) :
  Calls Tryz.prog 259 #[.int .i64 x,.int .i64 y] w fun e w'=>e=.returned (.int .i64 (x+y))/\w=w':=by
 obtain ⟨i1,i2⟩:=h1;obtain ⟨i3,i4⟩:=h2;go_enter Tryz.func259,Tryz.ntmps259;go_wp2;go_ret;exact ⟨rfl,rfl⟩
theorem zz31 {P:Prop} (h:P:=by
 go_wp2_with fail;refine (CA.out _).mono ?_;rintro e w1 ⟨rfl,rfl⟩;go_wp2;go_roundg (gk-1)
 case rel=>exact ⟨k+1,by have:=hkg.out;show _=_;omega,by go_num,by simpa using hws,by show RowZ _ _ _;simpa using hst.out⟩
 case measure=>have:=hkg.out;omega
 ):P:=h
theorem zz32 {P:Prop} (h:P:=by
 obtain ⟨v,hv⟩:=qac e2;have hyv:expAt m k=v:=qbz hv;rw [hy.out] at hyv;obtain ⟨b2,o2,rfl,d1⟩:=qoe (H'.out.ext (xbw hwr)) hv;rw [<- hyv] at d1;clear hv hyv;exact zz31
 ):P:=h
theorem qnn (l m:List Int) (a b:Option Addr) (ca cb:Nat) (w:World) (h:IntsR w a ca l) (h':IntsR w b cb m) (B:Int) (hB:0<=B/\B<=1048576) (hl:Mok B l) (hm:Mok B m) :
  Calls Tryz.prog 258 #[.slice a l.length ca,.slice b m.length cb,.func (Fn.func 259) #[] #[]] w fun e w'=>∃ g,e=.returned (.slice (some ⟨g,0,none⟩) (mulM l m).length (mulM l m).length)/\RowZ w' g (mulM l m)/\w.heap.size<=g/\Below w.heap.size w w':=by
 have z1:=h.len;have z2:=h'.len;have q1:=hl.2.2;have q2:=hm.2.2;have I1:=fun v=>hl.exp hB.1 v
 have I2:=fun v=>hm.exp hB.1 v
 obtain ⟨n,hn⟩:∃ n,max l.length m.length=n:=⟨_,rfl⟩
 have hml:=qdw l m;have hall:=qq5 l m;rw [hn] at hml hall;have hmk:=qn6 45 Tryz.underlying45 n (by omega) w;have hmx:max (l.length:Int) (m.length:Int)=(n:Int):=by omega
 have hn64:n<=64:=by omega
 have hr0:RowZ (w.alloc (.cells (((List.replicate n (0:Int)).map (Value.int .i64)).toArray) 3)) w.heap.size (partM n (fun v=>expAt l v+expAt m v) 0):=by rw [qpz];exact Blk.new w _ _
 have hb0:Below w.heap.size w (w.alloc (.cells (((List.replicate n (0:Int)).map (Value.int .i64)).toArray) 3)):=by go_grown
 have H:=Hd h;have H':=Hd h';replace I1:=Hd I1;replace I2:=Hd I2;replace hml:=Hd hml;replace hall:=Hd hall;replace hn:=Hd hn;replace hr0:=Hd hr0;have hBB:=Hd hB;clear h h' hl hm hB;go_enter Tryz.func258,Tryz.ntmps258;go_wp2;refine qab (fun W=>RowZ W w.heap.size (partM n (fun v=>expAt l v+expAt m v) 0)/\Below w.heap.size w W) ⟨by have:=hr0.out;simpa using this,by simpa using hb0⟩ ?_;rintro w0 ⟨hR,hw0⟩;obtain ⟨G,hG⟩:∃ G,G=w.heap.size:=⟨_,rfl⟩
 rw [<- hG] at hR ⊢;replace hR:=Hd hR;replace hG:=Hd hG;clear hb0 hr0 hmk
 go_loopg [8,9,10,19] n (fun g _ _ _ q wr=>∃ k:Nat,Hid (k+g=n)/\q=.int .i64 k/\Below w.heap.size w wr/\Hid (RowZ wr G (partM n (fun v=>expAt l v+expAt m v) k)))
 case atStart=>exact ⟨0,by show _=_;omega,rfl,hw0,hR.out⟩
 case round =>
  clear hw0 hR;obtain ⟨k,hkg,rfl,hwr,hR⟩:=hrel;by_cases hk:k<n
  ·
   obtain ⟨x,hx⟩:∃ x,expAt l k=x:=⟨_,rfl⟩
   obtain ⟨y,hy⟩:∃ y,expAt m k=y:=⟨_,rfl⟩
   have i1:=I1.out k;have i2:=I2.out k;rw [hx] at i1;rw [hy] at i2;have hbb:=hBB.out;have CA:=fun W=>qu6 x y W (by omega) (by omega)
   have c0:=hR.out.cell (qqh hk);rw [if_neg (Nat.lt_irrefl k)] at c0;have f0:=hR.out.frozen k;have hGl:=hR.out.lt;have hst:=hR.out.set_ k (x+y);rw [<- hx,<- hy,qrz,hx,hy] at hst;have hws:Below w.heap.size w (wr.setCell ⟨G,k,none⟩ (.int .i64 (x+y))):=hwr.setCell (p:=⟨G,k,none⟩) (by have:=hG.out;show _<=G;omega) _;replace CA:=Hd CA;replace hst:=Hd hst;replace hx:=Hd hx;replace hy:=Hd hy;clear i1 i2 hbb;by_cases e1:k<l.length
   ·
    obtain ⟨u,hu⟩:=qac e1;have hxu:expAt l k=u:=qbz hu;rw [hx.out] at hxu;obtain ⟨b1,o1,rfl,d0⟩:=qoe (H.out.ext (xbw hwr)) hu;rw [<- hxu] at d0;clear hu hxu;by_cases e2:k<m.length
    ·
     exact zz32
    ·
     have hy0:y=0:=by rw [<- hy.out];exact qb0 (by omega)
     subst hy0;exact zz31
   ·
    have hx0:x=0:=by rw [<- hx.out];exact qb0 (by omega)
    subst hx0;by_cases e2:k<m.length
    ·
     exact zz32
    · have:=hn.out;omega
  ·
   have hkn:k=n:=by have:=hkg.out;omega
   have hF:=hR.out;rw [hkn,hall.out] at hF;clear hkn hR;go_wp2;go_ret;exact ⟨G,by rw [hml.out];rfl,hF,by have:=hG.out;omega,hwr⟩
theorem qp8 (n g:Nat) (w:World) :
  (Instr.slice 189 (.slice (some ⟨g,0,none⟩) n n) none (some (.int .i64 (n:Int))) (some (.int .i64 (n:Int)))).run Tryz.prog w=.ok (.slice (some ⟨g,0,none⟩) n n) w:=by
 obtain ⟨d,hd,hz,hsz,hby⟩:=info_parts infoZ;have hu:=Tryz.underlying189;have he:Tryz.prog.elem 189=3:=by unfold Program.elem;rw [hu]
 have:=run_slice_hm (P:=Tryz.prog) (w:=w) 189 (some ⟨g,0,none⟩) n n (by rw [hu,he]) .i64 .i64 n n (by omega) (by omega) (by omega);rw [this,he];simp [sizeOf,typeInfo,hd,hsz,sliced];intro _
 rfl
theorem qr7 (l:List Int) (g:Nat) (w:World) (h:RowZ w g l) (h0:l[l.length-1]? ≠ some 0) (hi:∀ x∈l,0<=x/\x<=4611686018427387903) (hl:l.length<=64) :
  Calls Tryz.prog 257 #[.slice (some ⟨g,0,none⟩) l.length l.length] w fun e w'=>e=.returned (.slice (if l.length=0 then none else some ⟨g,0,none⟩) l.length l.length)/\w=w':=by
 by_cases hn:l.length=0
 ·
  rw [if_pos hn,hn];clear h h0 hi;go_enter Tryz.func257,Tryz.ntmps257;go_wp2
  go_loopg [3] 0 (fun _ q wr=>q=.int .i64 0/\w=wr)
  case atStart=>exact ⟨rfl,rfl⟩
  case round =>
   obtain ⟨rfl,rfl⟩:=hrel;go_wp2;go_ret;exact ⟨rfl,rfl⟩
 ·
  rw [if_neg hn];obtain ⟨x,hx⟩:=qac (show l.length-1<l.length by omega);have hx0:x≠0:=fun e=>h0 (by rw [hx,e])
  have hxe:(x==0)=false:=by simpa using hx0
  have hxb:(x != 0)=true:=by simpa using hx0
  have hxi:=hi x (List.mem_of_getElem? hx);obtain ⟨i1,i2⟩:=hxi;have c0:=h.cell hx;have hl1:((l.length:Int)-1)=((l.length-1:Nat):Int):=by omega
  have hsl:=fun W=>qp8 l.length g W
  obtain ⟨n,hln⟩:∃ n,l.length-1=n:=⟨_,rfl⟩
  rw [hln] at c0 hl1;clear h h0 hi hx;replace hln:=Hd hln;replace hx0:=Hd hx0;go_enter Tryz.func257,Tryz.ntmps257;go_wp2
  go_loopg [3] 0 (fun _ q wr=>q=.int .i64 l.length/\w=wr)
  case atStart=>exact ⟨rfl,rfl⟩
  case round =>
   obtain ⟨rfl,rfl⟩:=hrel;go_wp2;go_ret;exact ⟨rfl,rfl⟩
theorem qvj {B:Int} {l:List Int} (h:Mok B l) (hB:B<=2097152):∀ x∈l,InInt x:=fun x hx=>by have:=h.1 x hx;unfold InInt;omega
theorem qrh (l m:List Int) (a b:Option Addr) (ca cb:Nat) (w:World) (h:IntsR w a ca l) (h':IntsR w b cb m) (B:Int) (hB:0<=B/\B<=1048576) (hl:Mok B l) (hm:Mok B m) :
  Calls Tryz.prog 229 #[.slice a l.length ca,.slice b m.length cb] w (RetMo (mulM l m) w):=by
 have C1:=qnn l m a b ca cb w h h' B hB hl hm;have hok:=qn2 hl hm hB.1 hB.1;have C2:=fun g W hR=>qr7 (mulM l m) g W hR hok.2.1 (fun x hx=>by have:=hok.1 x hx;omega) hok.2.2
 have hin:=qvj hok (by omega);have hln:=hok.2.2;revert C1 C2 hin hln;generalize mulM l m=r;intro C1 C2 hin hln;replace C1:=Hd C1;replace C2:=Hd C2;replace hin:=Hd hin;replace hln:=Hd hln;clear h h' hB hl hm hok;go_enter Tryz.func229,Tryz.ntmps229;go_wp2_with fail;refine C1.out.mono ?_;rintro e w1 ⟨g,rfl,hR,hg,hb⟩;go_wp2_with fail;refine (C2.out g w1 hR).mono ?_;rintro e w2 ⟨rfl,rfl⟩;by_cases h0:r.length=0
 ·
  obtain rfl:r=[]:=List.eq_nil_of_length_eq_zero h0;clear hR hg;rw [if_pos h0];go_wp2;go_ret;exact ⟨none,0,rfl,fun V _=>SlR.nil,hb⟩
 ·
  have hK:=hR.reads hin.out (by have:=hln.out;unfold maxLen;omega) hg hR.lt;replace hK:=Hd hK;rw [if_neg h0];clear hR hg h0;go_wp2;go_ret;exact ⟨_,_,rfl,hK.out,hb⟩
theorem qrk (X:Nat->Prop) (p q:List Tm) (a b:Option Addr) (ca cb:Nat) (w:World) (hX:∀ b,X b->b<w.heap.size) (hp:PolX X w a ca p) (hq:PolX X w b cb q) (fp:FineP p) (fq:FineP q) :
  Calls Tryz.prog 89 #[.slice a p.length ca,.slice b q.length cb] w (RetP X (addP p q) w):=by
 have CM:=qvl X p q a b ca cb w hX hp hq fp fq;revert CM;generalize addP p q=R;intro CM;replace CM:=Hd CM;clear hX hp hq fp fq;go_enter Tryz.func89,Tryz.ntmps89;go_wp2_with fail;refine CM.out.mono ?_;rintro e w1 ⟨a1,c1,rfl,hP,hb⟩;go_wp2;go_ret;exact ⟨a1,c1,rfl,hP,hb⟩
theorem qlr {B:Nat} {w:World} {l:List TQ} {o:Oper} {act:Act} {K:Act->World->Prop} {Q:Exit->Act->World->Prop} (s y:Operand) (ts:TypeId)
  (ho:o.op=.call { callee:=.builtin .append,args:=#[s,y],argTypes:=#[ts,ts] }) (hu:Tryz.prog.underlying ts=some (.slice 191))
  (a:Option Addr) (c:Nat) (hs:act.eval s=.slice a l.length c) (hown:OwnT B w a c l)
  (x:TQ) (b c1:Nat) (hy:act.eval y=.slice (some ⟨b,0,none⟩) 1 c1) (hcell:x.At w b 0)
  (l2:List TQ) (hl2:l2=l++[x]) (hlen:l2.length<=16777216) (hB:B<=w.heap.size)
  (h:∀ a' c' w',OwnT B w' a' c' l2->w.grownBy w' (Value.ownBlock (.slice a l.length c))->((∃ g,a'=some ⟨g,0,none⟩/\(a=some ⟨g,0,none⟩\/g=w.heap.size))) ->
   K (act.put o.dst (.slice a' l2.length c')) w'):o.wp Tryz.prog act w K Q :=
 qd4 s y ts ho hu qeu rfl (by omega) (by omega) TQ.cs_len a c hs hown x (TQ.cs_one x) b c1 hy (by have:=hcell.cs;simpa using this) l2 hl2 hlen hB h
theorem At.new {w:World} {t:TQ}:t.At (w.alloc (.cells #[.bool t.x.neg,.slice t.x.a t.x.n t.x.c,.slice t.x.b t.x.m t.x.d,.slice t.a t.n t.c] 191)) w.heap.size 0:=⟨(Blk.new w 191 #[.bool t.x.neg,.slice t.x.a t.x.n t.x.c,.slice t.x.b t.x.m t.x.d,.slice t.a t.n t.c]).cell 0,(Blk.new w 191 #[.bool t.x.neg,.slice t.x.a t.x.n t.x.c,.slice t.x.b t.x.m t.x.d,.slice t.a t.n t.c]).cell 1,(Blk.new w 191 #[.bool t.x.neg,.slice t.x.a t.x.n t.x.c,.slice t.x.b t.x.m t.x.d,.slice t.a t.n t.c]).cell 2,(Blk.new w 191 #[.bool t.x.neg,.slice t.x.a t.x.n t.x.c,.slice t.x.b t.x.m t.x.d,.slice t.a t.n t.c]).cell 3⟩
theorem qpc {p:List Tm} {t u:Tm} {k:Nat} (h:p[k]? = some u):(qa6 p t).take (k+1)=(qa6 p t).take k++[(u.1*t.1,mulM u.2 t.2)]:=qbh (by unfold qa6;rw [List.getElem?_map,h];rfl)
theorem qop (p:List Tm) (t:Tm):(qa6 p t).length=p.length:=by simp [qa6]
theorem qtk {w:World} {cur:Array Value} {n B g:Nat} (hg:g=w.heap.size) (hB:B<=w.heap.size) (hn:n<=1000000) (hcs:cur.size=n*4):OwnT B (w.alloc (.cells cur 191)) (some ⟨g,0,none⟩) n []:=by
 subst hg;exact World.ownsRow_made w cur n hB (by unfold maxLen;omega) hcs
theorem qvp {X:Nat->Prop} {W:World} {x:QA} {q:Rat} {a:Option Addr} {c k:Nat} {m:List Int} {B T B' T':Nat} (h:Kp (fun V=>QK k V x q) B T W) (h':Kp (fun V=>IntsR V a c m) B' T' W) (hX:∀ b,X b->b<B/\b<B'):Rd X W (TQ.R ⟨x,m.length,a,c⟩ (q,m)) :=
 ((Rd.kp h fun b hb=>.inl (hX b hb).1).and (Rd.kp h' fun b hb=>.inl (hX b hb).2)).imp fun _ ⟨h1,h2⟩=>⟨h1.1,h2,rfl⟩
theorem qhw (X:Nat->Prop) (p:List Tm) (q:Rat) (m:List Int) (t:TQ) (a:Option Addr) (ca:Nat) (w:World) (hX:∀ b,X b->b<w.heap.size) (hp:PolX X w a ca p) (fp:FineP p) (ht:Rd X w (t.R (q,m))) (ft:FineT (q,m)) :
  Calls Tryz.prog 171 #[.slice a p.length ca,.agg #[.bool t.x.neg,.slice t.x.a t.x.n t.x.c,.slice t.x.b t.x.m t.x.d,.slice t.a t.n t.c]] w (RetP X (qa6 p (q,m)) w):=by
 have lp:=hp.len;have l1:=fp.1;obtain ⟨cur,hcs,hmk⟩:∃ cur:Array Value,cur.size=p.length*4/\∀ W:World,(Instr.makeSlice 92 (.int .i64 0) (.int .i64 (p.length:Int))).run Tryz.prog W=.ok (.slice (some ⟨W.heap.size,0,none⟩) 0 p.length) (W.alloc (.cells cur 191)):=by
  obtain ⟨i,hi,hz,hsz,hby⟩:=info_parts qeu;have:=fun W=>run_makeSlice (w:=W) 92 191 i _ Tryz.underlying92 hi hz .i64 .i64 0 p.length (by omega) (by omega) (by rw [hsz];simp;omega) (by rw [hby];omega) (by omega)
  rw [hsz] at this;simp only [Int.toNat_zero,Int.toNat_natCast] at this;exact ⟨_,size_madeCells _ _,this⟩
 have hln:=qop p (q,m);have HP:=Hd hp;have FP:=Hd fp.2;have HX:=Hd hX;have HT:=Hd ht;have FT:=Hd ft;replace hln:=Hd hln;clear hp fp hX ht ft;go_enter Tryz.func171,Tryz.ntmps171;go_wp2;refine qab (fun W=>Blk W w.heap.size 191 #[.bool t.x.neg,.slice t.x.a t.x.n t.x.c,.slice t.x.b t.x.m t.x.d,.slice t.a t.n t.c]/\OwnT (w.heap.size+1) W (some ⟨w.heap.size+1,0,none⟩) p.length []/\Below w.heap.size w W) ⟨by ((with_reducible repeat first|assumption|(apply bF;focus omega)|apply bS|(apply bN;focus (simp;done))|apply bA|apply bD);all_goals rfl),qtk (by simp) (by simp) (by omega) hcs,by go_grown⟩ ?_;rintro w0 ⟨hz,how,hw0⟩;obtain ⟨g1,hg1⟩:∃ g,g=w.heap.size+1:=⟨_,rfl⟩
 rw [<- hg1] at how ⊢;replace how:=Hd how;replace hg1:=Hd hg1;clear hmk
 go_loopg [5,7,8,14] p.length (fun n o _ _ qi wr=>∃ (k:Nat) (lo:List TQ) (ra:Option Addr) (rc:Nat),Hid (k+n=p.length)/\o=.slice ra lo.length rc/\qi=.int .i64 k/\Hid (OwnT g1 wr ra rc lo)/\Hid (AllT (Xr X ra) wr lo ((qa6 p (q,m)).take k))/\Below w.heap.size w wr/\Blk wr w.heap.size 191 #[.bool t.x.neg,.slice t.x.a t.x.n t.x.c,.slice t.x.b t.x.m t.x.d,.slice t.a t.n t.c])
 case atStart=>exact ⟨0,[],_,_,by show _=_;omega,rfl,rfl,how.out,by show AllT _ _ _ _;rw [List.take_zero];exact AllT.nil,hw0,hz⟩
 case round =>
  clear how hw0 hz;obtain ⟨k,lo,ra,rc,hm,rfl,rfl,ho,hA,hwr,hz⟩:=hrel;have hro:Hid (∀ g,ra=some g->w.heap.size<=g.block):=Hd fun g hg=>by have:=(ho.out.lt hg).1;have:=hg1.out;omega
  by_cases hk:k<p.length
  ·
   obtain ⟨u,hu⟩:=qac hk;obtain ⟨b1,o1,s,rfl,hs,hsR⟩:=HP.out.get hu;have fu:=FP.out u (List.mem_of_getElem? hu);have hnx:=qpc (t:=(q,m)) hu;have hll:lo.length=k:=by rw [hA.out.1,List.length_take,hln.out];omega
   have hlx:=Xr_lt (w:=w) HX.out (Own.base ho.out (by have:=hg1.out;omega)) hwr.size;have CM:=fun W (hW:Below w.heap.size w W)=>mul_q s.x t.x u.1 q 1000 1000 W ((hsR.call hW).now.qk fu) ((HT.out.call hW).now.qk FT.out) (by omega) (by omega)
   have CN:=fun W (hW:Below w.heap.size w W)=>qrh u.2 m s.a t.a s.c t.c W (hsR.call hW).now.2.1 (HT.out.call hW).now.2.1 1048576 (by omega) fu.1 FT.out.1
   have en:s.n=u.2.length:=hsR.now.2.2;have em:t.n=m.length:=HT.out.now.2.2;have hne:(sgnQ (u.1*q) != 0)=true:=by
    rw [qn3];have h1:=fu.2.1;have h2:=FT.out.2.1;have:¬ u.1*q=0:=by grind
    simp [this]
   obtain ⟨c0,c1,c2,c3⟩:=hs;have k0:=held c0 wr hwr;have k1:=held c1 wr hwr;have k2:=held c2 wr hwr;have k3:=held c3 wr hwr;obtain ⟨z0,z1,z2,z3⟩:=cq4 hz;have zl:=hz.lt;obtain ⟨R,hR⟩:∃ R,sgnQ (u.1*q)=R:=⟨_,rfl⟩
   have CS:=fun x W (hQ:QK 2000 W x (u.1*q))=>qiy x (u.1*q) 2000 W hQ (by omega)
   rw [hR] at hne CS;rw [<- en,<- em] at CN;replace CM:=Hd CM;replace CN:=Hd CN;replace CS:=Hd CS;replace hR:=Hd hR;replace hsR:=Hd hsR;replace fu:=Hd fu;replace hnx:=Hd hnx;replace hlx:=Hd hlx;replace en:=Hd en;replace em:=Hd em;replace hll:=Hd hll;clear hu c0 c1 c2 c3;go_wp2_with fail;refine qad (fun W=>Blk W wr.heap.size 191 #[.bool s.x.neg,.slice s.x.a s.x.n s.x.c,.slice s.x.b s.x.m s.x.d,.slice s.a s.n s.c]/\Blk W w.heap.size 191 #[.bool t.x.neg,.slice t.x.a t.x.n t.x.c,.slice t.x.b t.x.m t.x.d,.slice t.a t.n t.c]/\Below wr.heap.size wr W) (by refine ⟨?_,?_,?_⟩<;>first|((with_reducible repeat first|assumption|(apply bF;focus omega)|apply bS|(apply bN;focus (simp;done))|apply bA|apply bD);all_goals rfl)|go_grown) ?_;rintro w1 ⟨hs1,ht1,hb1⟩;refine (CM.out w1 (bth hwr hb1)).mono ?_;rintro e w2 ⟨x,rfl,HK,hb2⟩;replace hs1:=hs1.below' hb2;replace ht1:=ht1.below' hb2
   have hb2':=bth hb1 hb2;have hl1:=hs1.lt;have hl2:=ht1.lt;have hw12:=hb2.size;have hw01:=hb1.size;clear k0 k1 k2 k3 z0 z1 z2 z3;replace HK:=Hd HK;go_wp2_with fail
   refine qad (fun W=>Blk W w2.heap.size 51 #[.bool x.neg,.slice x.a x.n x.c,.slice x.b x.m x.d]/\Blk W wr.heap.size 191 #[.bool s.x.neg,.slice s.x.a s.x.n s.x.c,.slice s.x.b s.x.m s.x.d,.slice s.a s.n s.c]/\Blk W w.heap.size 191 #[.bool t.x.neg,.slice t.x.a t.x.n t.x.c,.slice t.x.b t.x.m t.x.d,.slice t.a t.n t.c]/\Kp (fun V=>QK (1000+1000) V x (u.1*q)) w1.heap.size w2.heap.size W/\Below wr.heap.size wr W) ⟨by ((with_reducible repeat first|assumption|(apply bF;focus omega)|apply bS|(apply bN;focus (simp;done))|apply bA|apply bD);all_goals rfl),by ((with_reducible repeat first|assumption|(apply bF;focus omega)|apply bS|(apply bN;focus (simp;done))|apply bA|apply bD);all_goals rfl),by ((with_reducible repeat first|assumption|(apply bF;focus omega)|apply bS|(apply bN;focus (simp;done))|apply bA|apply bD);all_goals rfl),by (with_reducible repeat first | exact HK.out | (refine Kp.setc ?_ ?_;focus omega) | refine Kp.alloc ?_ | refine Kp.drew ?_),by go_grown⟩ ?_
   rintro w3 ⟨hc3,hs3,ht3,HK3,hb3⟩;refine (CS.out x w3 HK3.now).mono ?_;rintro e w4 ⟨rfl,hb4⟩;obtain ⟨g3,hg3⟩:∃ g,g=w2.heap.size:=⟨_,rfl⟩
   rw [<- hg3] at hc3 ⊢;replace hg3:=Hd hg3;have hc4:=hc3.below' hb4;have hs4:=hs3.below' hb4;have ht4:=ht3.below' hb4;have y0:=held (hc4.cell 0);have y1:=held (hc4.cell 1);have y2:=held (hc4.cell 2);have x3:=held (hs4.cell 3);have v3:=held (ht4.cell 3);have hb4':=bth hb3 hb4;have HK4:=Hd (HK3.call hb4);have hdec:decide (R=0)=false:=by simpa using hne
   clear hc3 hs3 ht3 HK3 hb3 hb4 hc4 hs4 hs1 ht1 hl1 hl2;have s0:Below w4.heap.size w4 w4.drew:=brf.drew;go_wp2;refine wrx (S:=Below w4.heap.size w4) [(0,.q),(1,.q),(2,.q),(3,.q),(4,.q),(5,.q),(6,.l),(7,.q),(8,.l),(9,.t),(10,.p)] (s0) ?_
   iterate 6 (refine qam rfl rfl fun K hK=>xq ?_;go_simp;refine hK _ _ ?_;clear hK K)
   refine qaj rfl rfl (fun K hK=>?_);go_simp;refine (CN.out _ (bth hwr (bth hb4' s0))).mono ?_;rintro r w5 ⟨a5,c5,rfl,HM,hb5⟩;dsimp only;refine hK.out _ _ (bth s0 hb5) (fun _=>?_);clear hK K;have s5:=bth s0 hb5;obtain ⟨sn,hsn⟩:∃ sn:TQ,sn=⟨x,(mulM u.2 m).length,a5,c5⟩:=⟨_,rfl⟩
   have ex:x=sn.x:=by rw [hsn]
   have e5:(mulM u.2 m).length=sn.n:=by rw [hsn]
   have e6:a5=sn.a:=by rw [hsn]
   have e7:c5=sn.c:=by rw [hsn]
   have hb5':=bth hb4' s5;have hRS:Rd (Xr X ra) w5 (sn.R (u.1*q,mulM u.2 m)):=by rw [hsn];exact qvp (HK4.out.call s5) HM fun b hb=>by have:=hlx.out b hb;have:=hb4'.size;exact ⟨by omega,ltl (hlx.out b hb) (bth hb4' s0).size⟩
   rw [ex,e5,e6,e7];replace hRS:=Hd hRS;replace hsn:=Hd hsn;clear HM HK4 ex e5 e6 e7 y0 y1 y2 x3 v3
   iterate 1 (refine qam rfl rfl fun K hK=>xq ?_;go_simp;refine hK _ _ ?_;clear hK K)
   refine qaj rfl rfl (fun K hK=>?_);go_simp;refine hK.out _ _ (s5.alloc s5.size _) (fun _=>?_);clear hK K;have ho5:=(ho.out.below hb5').alloc (.cells #[.bool sn.x.neg,.slice sn.x.a sn.x.n sn.x.c,.slice sn.x.b sn.x.m sn.x.d,.slice sn.a sn.n sn.c] 191);have hw5:=bth hwr hb5';have hel:sn.At (w5.alloc (.cells #[.bool sn.x.neg,.slice sn.x.a sn.x.n sn.x.c,.slice sn.x.b sn.x.m sn.x.d,.slice sn.a sn.n sn.c] 191)) w5.heap.size 0:=At.new;replace ho5:=Hd ho5;replace hel:=Hd hel;refine qah rfl rfl (fun K hK=>?_);refine qlr (B:=g1) (.tmp 26) (.tmp 34) 92 rfl Tryz.underlying92 ra rc rfl ho5.out sn w5.heap.size 1 rfl hel.out (lo++[sn]) rfl (by have:=hll.out;simp;omega) (by have:=hg1.out;have:=hw5.size;have:=ht4.lt;have:=s5.size;simp;omega) ?_;intro ra2 rc2 w6 ho6 hg6 ha6;go_simp;refine hK.out _ _ ?_;clear hK K
   iterate 1 (refine qav rfl rfl fun K hK=>xp ?_;go_simp;refine hK _ _ ?_;clear hK K)
   refine qak ?_;have hA6:=qg5 hA.out hb5' (brf.alloc (nlr _) (.cells #[.bool sn.x.neg,.slice sn.x.a sn.x.n sn.x.c,.slice sn.x.b sn.x.m sn.x.d,.slice sn.a sn.n sn.c] 191)) (hRS.out.alloc _) hg6 ha6;rw [<- hnx.out] at hA6;have hw6:Below w.heap.size w w6:=qaq (hw5.alloc hw5.size (.cells #[.bool sn.x.neg,.slice sn.x.a sn.x.n sn.x.c,.slice sn.x.b sn.x.m sn.x.d,.slice sn.a sn.n sn.c] 191)) (Own.base ho5.out (by have:=hg1.out;omega)) hg6;have hz6:Blk w6 w.heap.size 191 #[.bool t.x.neg,.slice t.x.a t.x.n t.x.c,.slice t.x.b t.x.m t.x.d,.slice t.a t.n t.c]:=((ht4.below' s5).alloc _).under ho5.out (by have:=hg1.out;omega) hg6;replace ho6:=Hd ho6;replace hA6:=Hd hA6;clear hg6 ha6 ho5 hel;go_wp2;go_roundg (gk-1)
   case rel=>exact ⟨k+1,lo++[sn],ra2,rc2,by have:=hm.out;show _=_;omega,by simp,by go_num,ho6.out,hA6.out,hw6,hz6⟩
   case measure=>have:=hm.out;omega
  ·
   have hkp:k=p.length:=by have:=hm.out;omega
   have hA2:=hA.out;rw [hkp,<- hln.out,List.take_length] at hA2;have hP:=OwnT.pol (Own.base (B':=w.heap.size) ho.out (by have:=hg1.out;omega)) hA2 HX.out;have hRl:=hA2.1;replace hP:=Hd hP;replace hRl:=Hd hRl;clear hA hA2 hkp hz;go_wp2;go_ret;exact ⟨ra,rc,by rw [<- hRl.out];rfl,hP.out,hwr⟩
abbrev Vr:=Int × Int × Int
abbrev Vec:=List Tm × List Tm
structure Frm where
 vars:List Vr
 coords:List Vec
 free:Nat
def varP (n:Nat):List Tm:=if n<64 then [(1,List.replicate n 0++[1])] else []
def argF (l:List Vec) (args:List Int) (k:Nat):Vec:=l.getD (args.getD k 0).toNat ([],[])
def qgz (a b:Vec) (t:List Tm->List Tm):Vec:=(addP a.1 (t (subP b.1 a.1)),addP a.2 (t (subP b.2 a.2)))
def nextF (x:Frm) (kind:Int) (args:List Int) (r:Rat) (i:Nat):List Vr × Vec :=
 if kind=1 then
  if x.free=0 then (x.vars,([],[]))
  else if x.free=1 then (x.vars++[(1,(i:Int),0)],(varP x.vars.length,[]))
  else (x.vars++[(1,(i:Int),0),(1,(i:Int),1)],(varP x.vars.length,varP (x.vars.length+1)))
 else if kind=2 then (x.vars,qgz (argF x.coords args 0) (argF x.coords args 1) fun p=>qa1 p r)
 else if kind=3 then (x.vars,(addP (argF x.coords args 0).1 (subP (argF x.coords args 2).1 (argF x.coords args 1).1),addP (argF x.coords args 0).2 (subP (argF x.coords args 2).2 (argF x.coords args 1).2)))
 else if kind=4 then (x.vars,(addP (argF x.coords args 0).1 (subP (argF x.coords args 1).2 (argF x.coords args 2).2),addP (argF x.coords args 0).2 (subP (argF x.coords args 2).1 (argF x.coords args 1).1)))
 else if kind=5 then (x.vars++[(1,(i:Int),0)],qgz (argF x.coords args 0) (argF x.coords args 1) fun p=>mulP p (varP x.vars.length))
 else if kind=6 then (x.vars++[(1,(i:Int),0),(2,(i:Int),1),(2,(i:Int),2)],(varP (x.vars.length+1),varP (x.vars.length+2)))
 else (x.vars++[(2,(i:Int),0),(2,(i:Int),1)],(varP x.vars.length,varP (x.vars.length+1)))
def FrmOk (i:Nat) (D M:Nat) (x:Frm):Prop:=x.coords.length=i/\0<D/\D<=(2 ^ 32) ^ i/\M<=(3*2 ^ 32) ^ i/\D<=M/\x.vars.length<=64/\x.free<=i /\
 ∀ v∈x.coords,(Pok i v.1/\PolyO D M v.1/\v.1.length<=4000)/\(Pok i v.2/\PolyO D M v.2/\v.2.length<=4000)
theorem qhb {n:Nat} {B:Int} (hB:1<=B):Pok B (varP n):=by
 unfold varP
 split
 ·
  next h =>
  refine ⟨fun t ht=>?_,by simp⟩;rw [List.mem_singleton] at ht;subst ht;refine ⟨⟨fun x hx=>?_,?_,by simp;omega⟩,by show (1:Rat)≠0;decide⟩
  ·
   rcases List.mem_append.1 hx with h | h
   ·
    have:=List.eq_of_mem_replicate h
    omega
   · rw [List.mem_singleton] at h;omega
  · simp
 · exact Pok.nil _
theorem qj1 (n:Nat) {D M:Nat} (hD:D<=M):PolyO D M (varP n):=by
 unfold varP
 split
 ·
  intro t ht;rw [List.mem_singleton] at ht;subst ht;exact ⟨D,by show (1:Rat)*D=_;rw [Rat.one_mul,Rat.intCast_natCast],by simpa using hD⟩
 · exact PolyO.nil _ _
theorem ql5 (n:Nat):(varP n).length<=1:=by unfold varP;split <;> simp
theorem qjg {i:Nat} {D M:Nat} {x:Frm} (h:FrmOk i D M x) (args:List Int) (k:Nat) :
  (Pok i (argF x.coords args k).1/\PolyO D M (argF x.coords args k).1/\(argF x.coords args k).1.length<=4000)/\(Pok i (argF x.coords args k).2/\PolyO D M (argF x.coords args k).2/\(argF x.coords args k).2.length<=4000):=by
 unfold argF;rw [List.getD_eq_getElem?_getD]
 cases hx:x.coords[(args.getD k 0).toNat]? with
 | none=>exact ⟨⟨Pok.nil _,PolyO.nil _ _,by simp⟩,⟨Pok.nil _,PolyO.nil _ _,by simp⟩⟩
 | some v=>exact h.2.2.2.2.2.2.2 v (List.mem_of_getElem? hx)
def putF (x:Frm) (kind:Int) (y:List Vr × Vec):Frm:=⟨y.1,x.coords++[y.2],if kind=1 then x.free+1 else x.free⟩
def bigF (y:List Vr × Vec):Bool:=decide (64<y.1.length)||decide (4000<y.2.1.length)||decide (4000<y.2.2.length)
theorem Pok.step {i:Nat} {p:List Tm} (h:Pok (i:Int) p):Pok ((i+1:Nat):Int) p:=h.more (by omega)
theorem qhi {i:Nat} {p:List Tm} (h:Pok (i:Int) p) (n:Nat):Pok ((i+1:Nat):Int) (mulP p (varP n)):=by
 have:=qje (B:=i) (B':=1) h (qhb (n:=n) (Int.le_refl _)).1 (by omega) (by omega)
 rwa [show ((i:Int)+1)=((i+1:Nat):Int) by omega] at this
theorem qge {D M n:Nat} {p:List Tm} (h:PolyO D M p):PolyO D M (mulP p (varP n)):=by
 unfold varP
 split
 · rw [qev];exact h.times1 _
 · exact PolyO.nil _ _
theorem qv6 {i D M:Nat} {x:Frm} (h:FrmOk i D M x) (kind:Int) (args:List Int) (r:Rat) (hr:kind=2->r.num.natAbs<=2 ^ 32/\r.den<=2 ^ 32) :
  ∃ D' M',0<D'/\D'<=(2 ^ 32) ^ (i+1)/\M'<=(3*2 ^ 32) ^ (i+1)/\D'<=M'/\(∀ p,PolyO D M p->PolyO D' M' p) /\
   (Pok ((i+1:Nat):Int) (nextF x kind args r i).2.1/\PolyO D' M' (nextF x kind args r i).2.1)/\(Pok ((i+1:Nat):Int) (nextF x kind args r i).2.2/\PolyO D' M' (nextF x kind args r i).2.2):=by
 obtain ⟨h0,h1,h2,h3,h4,h5,h6,h7⟩:=id h;have A:=fun k=>qjg h args k
 have e1:(2 ^ 32:Nat) ^ (i+1)=(2 ^ 32) ^ i*2 ^ 32:=Nat.pow_succ _ _;have e2:(3*2 ^ 32:Nat) ^ (i+1)=(3*2 ^ 32) ^ i*(3*2 ^ 32):=Nat.pow_succ _ _;unfold nextF;by_cases k2:kind=2
 ·
  obtain ⟨r1,r2⟩:=hr k2;have d0:0<r.den:=Nat.pos_of_ne_zero r.den_nz;refine ⟨D*r.den,M*r.den+(M+M)*r.num.natAbs,Nat.mul_pos h1 d0,?_,?_,?_,fun p hp=>(hp.wide _).more (by omega),?_⟩
  · rw [e1];exact Nat.mul_le_mul h2 r2
  ·
   rw [e2];have g1:=Nat.mul_le_mul h3 r2;have g2:=Nat.mul_le_mul h3 r1;generalize (3*2 ^ 32) ^ i=P at *;rw [Nat.add_mul]
   omega
  ·
   have:=Nat.mul_le_mul h4 (nlr r.den)
   omega
  ·
   rw [if_neg (by omega),if_pos k2];unfold qgz;have C:=fun (a b:List Tm) (ha:Pok i a/\PolyO D M a/\a.length<=4000) (hb:Pok i b/\PolyO D M b/\b.length<=4000) =>
    (⟨qc9 ha.1.step (qg1 (qdj hb.1 ha.1)).step,(ha.2.1.wide r.den).add ((hb.2.1.sub ha.2.1).scale r)⟩:Pok ((i+1:Nat):Int) (addP a (qa1 (subP b a) r))/\PolyO (D*r.den) (M*r.den+(M+M)*r.num.natAbs) (addP a (qa1 (subP b a) r)))
   exact ⟨C _ _ (A 0).1 (A 1).1,C _ _ (A 0).2 (A 1).2⟩
 ·
  have three:∀ p,PolyO D M p->PolyO D (M+(M+M)) p:=fun p hp=>hp.more (by omega)
  refine ⟨D,M+(M+M),h1,?_,?_,by omega,three,?_⟩
  · rw [e1];exact Nat.le_trans h2 (Nat.le_mul_of_pos_right _ (by decide))
  ·
   rw [e2];generalize (3*2 ^ 32) ^ i=P at *
   omega
  ·
   have V:=fun n=>(⟨qhb (n:=n) (B:=((i+1:Nat):Int)) (by omega),qj1 n (D:=D) (M:=M+(M+M)) (by omega)⟩:Pok ((i+1:Nat):Int) (varP n)/\PolyO D (M+(M+M)) (varP n))
   have Z:Pok ((i+1:Nat):Int) []/\PolyO D (M+(M+M)) []:=⟨Pok.nil _,PolyO.nil _ _⟩
   have C:=fun (a b c:List Tm) (ha:Pok i a/\PolyO D M a/\a.length<=4000) (hb:Pok i b/\PolyO D M b/\b.length<=4000) (hc:Pok i c/\PolyO D M c/\c.length<=4000) =>
    (⟨qc9 ha.1.step (qdj hb.1 hc.1).step,ha.2.1.add (hb.2.1.sub hc.2.1)⟩:Pok ((i+1:Nat):Int) (addP a (subP b c))/\PolyO D (M+(M+M)) (addP a (subP b c)))
   have L:=fun (a b:List Tm) (n:Nat) (ha:Pok i a/\PolyO D M a/\a.length<=4000) (hb:Pok i b/\PolyO D M b/\b.length<=4000) =>
    (⟨qc9 ha.1.step (qhi (qdj hb.1 ha.1) n),ha.2.1.add (qge (hb.2.1.sub ha.2.1))⟩:Pok ((i+1:Nat):Int) (addP a (mulP (subP b a) (varP n)))/\PolyO D (M+(M+M)) (addP a (mulP (subP b a) (varP n))))
   split
   ·
    split
    · exact ⟨Z,Z⟩
    ·
     split
     · exact ⟨V _,Z⟩
     · exact ⟨V _,V _⟩
   ·
    split
    · exact ⟨C _ _ _ (A 0).1 (A 2).1 (A 1).1,C _ _ _ (A 0).2 (A 2).2 (A 1).2⟩
    ·
     split
     · exact ⟨C _ _ _ (A 0).1 (A 1).2 (A 2).2,C _ _ _ (A 0).2 (A 2).1 (A 1).1⟩
     ·
      split
      · exact ⟨L _ _ _ (A 0).1 (A 1).1,L _ _ _ (A 0).2 (A 1).2⟩
      ·
       split
       · exact ⟨V _,V _⟩
       · exact ⟨V _,V _⟩
theorem FrmOk.next {i D M:Nat} {x:Frm} (h:FrmOk i D M x) (kind:Int) (args:List Int) (r:Rat) (hr:kind=2->r.num.natAbs<=2 ^ 32/\r.den<=2 ^ 32) (hb:bigF (nextF x kind args r i)=false) :
  ∃ D' M',FrmOk (i+1) D' M' (putF x kind (nextF x kind args r i)):=by
 obtain ⟨D',M',g1,g2,g3,g4,g5,g6,g7⟩:=qv6 h kind args r hr;unfold bigF at hb;simp only [Bool.or_eq_false_iff,decide_eq_false_iff_not,Nat.not_lt] at hb;refine ⟨D',M',by simp [putF,h.1],g1,g2,g3,g4,hb.1.1,by have:=h.2.2.2.2.2.2.1;unfold putF;dsimp only;split <;> omega,fun v hv=>?_⟩;rcases List.mem_append.1 hv with e | e
 ·
  obtain ⟨a1,a2⟩:=h.2.2.2.2.2.2.2 v e;exact ⟨⟨a1.1.step,g5 _ a1.2.1,a1.2.2⟩,⟨a2.1.step,g5 _ a2.2.1,a2.2.2⟩⟩
 ·
  rw [List.mem_singleton] at e;subst e;exact ⟨⟨g6.1,g6.2,hb.1.2⟩,⟨g7.1,g7.2,hb.2⟩⟩
theorem qtg {B:Int} {p q:List Tm} (hp:Pok B p) (hq:Pok B q):negP (subP p q)=subP q p :=
 qi2 (qjm (qdj hp hq)) (qdj hq hp) fun m=>by rw [qjr,qj4 hp hq,qj4 hq hp];grind
theorem ql6 {p:List Tm} (h:FineP p):FineP (negP p):=by
 unfold negP qa1;rw [if_neg (by decide)];refine ⟨by simpa using h.1,fun u hu=>?_⟩;obtain ⟨s,hs,rfl⟩:=List.mem_map.1 hu;obtain ⟨h1,h2,h3⟩:=h.2 s hs;have e:s.1*(-1) = -s.1:=by grind
 exact ⟨h1,by show s.1*(-1)≠0;grind,by show qsz (s.1*(-1))<=1000;rw [e,qnw];exact h3⟩
theorem qt6:qat (decide ((-1:Int)<0)) (-1:Int).natAbs 1=trip (-1):=by
 have:=qeq (-1) 1;rw [this]
 rfl
theorem qmc:qsz (-1)<=1:=qfr (qal (by decide)) (qal (by decide))
theorem qwm (w:World):Calls Tryz.prog 102 #[.int .i64 (-1)] w (RetQK 1 (-1) w):=by
 have:=qh3 (-1) w ⟨by omega,by omega⟩;rw [qt6] at this;exact this.mono fun _ _ h=>qfl qmc h
theorem qk2 (X:Nat->Prop) (p:List Tm) (x:QA) (q:Rat) (a:Option Addr) (ca:Nat) (w:World) (hX:∀ b,X b->b<w.heap.size) (hp:PolX X w a ca p) (fp:FineP p) (hx:Rd X w fun V=>QAc V x q) (hq:qsz q<=1000) :
  Calls Tryz.prog 92 #[.slice a p.length ca,.agg #[.bool x.neg,.slice x.a x.n x.c,.slice x.b x.m x.d]] w (RetP X (qa1 p q) w):=by
 have CS:=fun W (hW:Below w.heap.size w W)=>qiy x q 1000 W ⟨(hx.call hW).now,hq⟩ (by omega)
 have hsg:=qoh q;by_cases h0:q=0
 ·
  have e:qa1 p q=[]:=by unfold qa1;rw [if_pos h0]
  rw [e];rw [decide_eq_true h0] at hsg;revert CS hsg;generalize sgnQ q=R;intro CS hsg;replace CS:=Hd CS;clear hX hp fp hx hq h0 e;go_enter Tryz.func92,Tryz.ntmps92;go_wp2_with fail;refine qad (fun W=>Below w.heap.size w W) (by go_grown) ?_;intro w0 hw0;refine (CS.out _ hw0).mono ?_;rintro e w1 ⟨rfl,hb1⟩;go_wp2;go_ret;exact ⟨none,0,rfl,PolX.nil,bth hw0 hb1⟩
 ·
  have e:qa1 p q=qa6 p (q,[]):=(qlm h0).symm;rw [e];rw [decide_eq_false h0] at hsg;have CT:=fun W (hW:Below w.heap.size w W)=>qhw X p q [] ⟨x,0,none,0⟩ a ca W (fun b hb=>ltl (hX b hb) hW.size) (hp.call hW) fp ((hx.call hW).imp fun V h=>⟨h,SlR.nil,rfl⟩) ⟨Mok.nil _,h0,hq⟩
  revert CS CT hsg;generalize sgnQ q=R;generalize qa6 p (q,[])=res;intro CS hsg CT;replace CS:=Hd CS;replace CT:=Hd CT;clear hX hp fp hx hq h0 e;go_enter Tryz.func92,Tryz.ntmps92;go_wp2_with fail;refine qad (fun W=>Blk W w.heap.size 51 #[.bool x.neg,.slice x.a x.n x.c,.slice x.b x.m x.d]/\Below w.heap.size w W) ⟨by ((with_reducible repeat first|assumption|(apply bF;focus omega)|apply bS|(apply bN;focus (simp;done))|apply bA|apply bD);all_goals rfl),by go_grown⟩ ?_;rintro w0 ⟨hz,hw0⟩;refine (CS.out _ hw0).mono ?_;rintro e w1 ⟨rfl,hb1⟩;replace hz:=hz.below' hb1;have hw1:=bth hw0 hb1;obtain ⟨z0,z1,z2⟩:=cq3 hz;go_wp2_with fail;refine (CT.out _ hw1).mono ?_;rintro e w2 ⟨a2,c2,rfl,hP,hb2⟩;go_wp2;go_ret;exact ⟨a2,c2,rfl,hP,bth hw1 hb2⟩
theorem qqi (X:Nat->Prop) (p:List Tm) (a:Option Addr) (ca:Nat) (w:World) (hX:∀ b,X b->b<w.heap.size) (hp:PolX X w a ca p) (fp:FineP p) :
  Calls Tryz.prog 93 #[.slice a p.length ca] w (RetP X (negP p) w):=by
 have CT:=fun x W (hW:Below w.heap.size w W) hx=>qk2 X p x (-1) a ca W (fun b hb=>ltl (hX b hb) hW.size) (hp.call hW) fp hx (Nat.le_trans qmc (by omega))
 have hXl:=Hd hX;replace CT:=Hd CT;unfold negP;revert CT;generalize qa1 p (-1)=res;intro CT;clear hX hp fp;go_enter Tryz.func93,Tryz.ntmps93;go_wp2_with fail;refine (qwm w).mono ?_;rintro e w1 ⟨x,rfl,HK,hb1⟩;go_wp2_with fail;refine (CT.out x w1 hb1 (Rd.kp (HK.imp fun V h=>h.1) fun b hb=>.inl (hXl.out b hb))).mono ?_;rintro e w2 ⟨a2,c2,rfl,hP,hb2⟩;clear HK;go_wp2;go_ret;exact ⟨a2,c2,rfl,hP,bth hb1 hb2⟩
theorem qwc (X:Nat->Prop) (p q:List Tm) (a b:Option Addr) (ca cb:Nat) (w:World) (hX:∀ b,X b->b<w.heap.size) (hp:PolX X w a ca p) (hq:PolX X w b cb q) (fp:FineP p) (fq:FineP q) :
  Calls Tryz.prog 167 #[.slice a p.length ca,.slice b q.length cb] w (RetP X (subP p q) w):=by
 have C1:=qqi X q b cb w hX hq fq;have C2:=fun b' cb' W (hW:Below w.heap.size w W) h=>qrk X p (negP q) a b' ca cb' W (fun b hb=>ltl (hX b hb) hW.size) (hp.call hW) h fp (ql6 fq)
 unfold subP;revert C1 C2;generalize negP q=nq;generalize addP p nq=res;intro C1 C2;replace C1:=Hd C1;replace C2:=Hd C2;clear hX hp hq fp fq;go_enter Tryz.func167,Tryz.ntmps167;go_wp2_with fail;refine C1.out.mono ?_;rintro e w1 ⟨a1,c1,rfl,hP1,hb1⟩;replace hP1:=Hd hP1;go_wp2_with fail;refine (C2.out a1 c1 w1 hb1 hP1.out).mono ?_;rintro e w2 ⟨a2,c2,rfl,hP,hb2⟩;go_wp2;go_ret;exact ⟨a2,c2,rfl,hP,bth hb1 hb2⟩
theorem qrn (X:Nat->Prop) (x:QA) (q:Rat) (m:List Int) (a:Option Addr) (ca:Nat) (w:World) (hX:∀ b,X b->b<w.heap.size) (hx:Rd X w fun V=>QAc V x q) (hq:qsz q<=1000) (h0:q≠0) (hm:Rd X w fun V=>IntsR V a ca m) :
  Calls Tryz.prog 230 #[.agg #[.bool x.neg,.slice x.a x.n x.c,.slice x.b x.m x.d],.slice a m.length ca] w (RetP X [(q,m)] w):=by
 have CS:=fun W (hW:Below w.heap.size w W)=>qiy x q 1000 W ⟨(hx.call hW).now,hq⟩ (by omega)
 have hsg:=qoh q;rw [decide_eq_false h0] at hsg;obtain ⟨t,ht⟩:∃ t:TQ,t=⟨x,m.length,a,ca⟩:=⟨_,rfl⟩
 have hR:Rd X w (t.R (q,m)):=by rw [ht];exact (hx.and hm).imp fun V h=>⟨h.1,h.2,rfl⟩
 have e1:x=t.x:=by rw [ht]
 have e2:m.length=t.n:=by rw [ht]
 have e3:a=t.a:=by rw [ht]
 have e4:ca=t.c:=by rw [ht]
 rw [e1] at CS;rw [e1,e2,e3,e4];obtain ⟨S0,hS0⟩:∃ S0,sgnQ q=S0:=⟨_,rfl⟩
 rw [hS0] at CS hsg;clear hS0;replace CS:=Hd CS;replace hR:=Hd hR;replace hX:=Hd hX;clear hx hq hm h0 ht e1 e2 e3 e4;go_enter Tryz.func230,Tryz.ntmps230;go_wp2_with fail;refine qad (fun W=>Blk W w.heap.size 51 #[.bool t.x.neg,.slice t.x.a t.x.n t.x.c,.slice t.x.b t.x.m t.x.d]/\Below w.heap.size w W) ⟨by ((with_reducible repeat first|assumption|(apply bF;focus omega)|apply bS|(apply bN;focus (simp;done))|apply bA|apply bD);all_goals rfl),by go_grown⟩ ?_;rintro w0 ⟨hz,hw0⟩;refine (CS.out _ hw0).mono ?_;rintro e w1 ⟨rfl,hb1⟩;replace hz:=hz.below' hb1;have hw1:=bth hw0 hb1;obtain ⟨z0,z1,z2⟩:=cq3 hz;have hP:PolX X (w1.alloc (.cells #[.bool t.x.neg,.slice t.x.a t.x.n t.x.c,.slice t.x.b t.x.m t.x.d,.slice t.a t.n t.c] 191)) (some ⟨w1.heap.size,0,none⟩) 1 [(q,m)]:=by
  refine ⟨[t],fun V hV=>⟨by simp,by simp [maxLen],fun k s hk=>?_⟩,AllT.one ((hR.out.call hw1).alloc _)⟩
  cases k with
  | zero =>
   simp at hk;subst hk;have hA:TQ.At t (w1.alloc (.cells #[.bool t.x.neg,.slice t.x.a t.x.n t.x.c,.slice t.x.b t.x.m t.x.d,.slice t.a t.n t.c] 191)) w1.heap.size 0:=At.new;have hn:¬ X w1.heap.size:=fun h=>by have:=hX.out _ h;have:=hw1.size;omega
   exact ⟨_,0,rfl,hV _ _ hn hA.1,hV _ _ hn hA.2.1,hV _ _ hn hA.2.2.1,hV _ _ hn hA.2.2.2⟩
  | succ k=>simp at hk
 replace hP:=Hd hP;go_wp2;go_ret;exact ⟨_,1,rfl,hP.out,hw1.alloc hw1.size _⟩
end Go.Proofs.YtfaalkneigpcnaaGreatDoor
