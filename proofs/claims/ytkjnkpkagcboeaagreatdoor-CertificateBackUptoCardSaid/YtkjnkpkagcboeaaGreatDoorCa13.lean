/- Walk: the text of a term by the program. -/
import Derived.Test.YtkjnkpkagcboeaaGreatDoorCa12
import Derived.Test.YtkjnkpkagcboeaaGreatDoorCa10
import Derived.Test.YtkjnkpkagcboeaaGreatDoorCa7
import Derived.Test.YtkjnkpkagcboeaaGreatDoorCa8
import Derived.Test.YtkjnkpkagcboeaaGreatDoorCa9
import Derived.Test.YtkjnkpkagcboeaaGreatDoorCa1
import Derived.Test.YtkjnkpkagcboeaaGreatDoorCa2
set_option linter.all false
set_option maxRecDepth 100000
set_option maxHeartbeats 4000000
namespace Go.Proofs.YtkjnkpkagcboeaaGreatDoor
open Go.RowKit
def RowP (a:Option Addr) (c:Nat) (hs:List PQ) (V:World):Prop:=SlR 1 (fun V b o (s:PQ)=>V.cell? ⟨b,o,none⟩ = some (.slice s.a s.n s.c)) V a c hs
theorem RowP.ext {a:Option Addr} {c:Nat} {hs:List PQ} {V V':World} (h:RowP a c hs V) (e:Ext V V'):RowP a c hs V':=SlR.mono h fun _ _ _ _ h=>e _ _ h
def AllP (X:Nat -> Prop) (w:World) (hs:List PQ) (ps:List (List Tm)):Prop:=hs.length = ps.length /\ ∀ (k:Nat) (s:PQ) (p:List Tm),hs[k]? = some s -> ps[k]? = some p -> s.n = p.length /\ PolX X w s.a s.c p
def PartsX (X:Nat -> Prop) (w:World) (a:Option Addr) (c:Nat) (ps:List (List Tm)):Prop:=∃ hs,RowP a c hs w /\ AllP X w hs ps
section
variable {X : Nat -> Prop} {w w' : World} {a : Option Addr} {c : Nat} {ps : List (List Tm)}
theorem AllP.call {hs:List PQ} (h:AllP X w hs ps) (e:Below w.heap.size w w'):AllP X w' hs ps:=⟨h.1,fun k s p h1 h2=>⟨(h.2 k s p h1 h2).1,(h.2 k s p h1 h2).2.call e⟩⟩
theorem PartsX.call (h:PartsX X w a c ps) (e:Below w.heap.size w w'):PartsX X w' a c ps:=by obtain ⟨hs,h1,h2⟩:=h; exact ⟨hs,h1.ext (xbw e),h2.call e⟩
theorem PartsX.cap (h:PartsX X w a c ps):ps.length <= c /\ c <= maxLen:=by obtain ⟨hs,h1,h2⟩:=h; rw [<- h2.1]; exact ⟨h1.1,h1.2.1⟩
theorem PartsX.take (h:PartsX X w a c ps) (n:Nat):PartsX X w a c (ps.take n):=by
 obtain ⟨hs,h1,h2⟩:=h;refine ⟨hs.take n,⟨by have:=h1.1; rw [List.length_take]; omega,h1.2.1,fun k x hx=>?_⟩,by rw [List.length_take,List.length_take,h2.1],fun k s p e1 e2=>?_⟩
 ·
  rw [List.getElem?_take] at hx
  split at hx
  · exact h1.2.2 k x hx
  · cases hx
 ·
  rw [List.getElem?_take] at e1 e2
  split at e1
  · next hk=>rw [if_pos hk] at e2; exact h2.2 k s p e1 e2
  · cases e1
theorem PartsX.drop (h:PartsX X w a c ps) (n:Nat) (hn:n <= ps.length):PartsX X w (a.map (·.add (n * 1))) (c - n) (ps.drop n):=by
 obtain ⟨hs,h1,h2⟩:=h;refine ⟨hs.drop n,⟨by have:=h1.1; rw [List.length_drop]; omega,by have:=h1.2.1; omega,fun k x hx=>?_⟩,by rw [List.length_drop,List.length_drop,h2.1],fun k s p e1 e2=>?_⟩
 ·
  rw [List.getElem?_drop] at hx;obtain ⟨b,off,ha,hc⟩:=h1.2.2 (n + k) x hx;refine ⟨b,off + n * 1,by rw [ha,Option.map_some,Addr.add_lit],?_⟩;rw [show off + n * 1 + k * 1 = off + (n + k) * 1 by omega];exact hc
 ·
  rw [List.getElem?_drop] at e1 e2;exact h2.2 (n + k) s p e1 e2
end
theorem slice_pq_h (a:Option Addr) (n c i:Nat) (hi:i <= c) (w:World):(Instr.slice 37 (.slice a n c) none (some (.int .i64 (i:Int))) none).run Tryz.prog w = .ok (.slice a i c) w:=by
 obtain ⟨d,hd,hz,hsz,hby⟩:=info_parts infoPq;have hu:=Tryz.underlying37;have he:Tryz.prog.elem 37 = 23:=by unfold Program.elem; rw [hu]
 have:=run_slice_h (P:=Tryz.prog) (w:=w) 37 a n c (by rw [hu,he]) .i64 i (by omega) (by omega);rw [this,he];simp [sizeOf,typeInfo,hd,hsz,sliced];intro _
 cases a <;> rfl
theorem slice_pq_l (a:Option Addr) (n c i:Nat) (hi:i <= n) (w:World):(Instr.slice 37 (.slice a n c) (some (.int .i64 (i:Int))) none none).run Tryz.prog w = .ok (.slice (if c = i then a else a.map (·.add (i * 1))) (n - i) (c - i)) w:=by
 obtain ⟨d,hd,hz,hsz,hby⟩:=info_parts infoPq;have hu:=Tryz.underlying37;have he:Tryz.prog.elem 37 = 23:=by unfold Program.elem; rw [hu]
 have:=run_slice_l (P:=Tryz.prog) (w:=w) 37 a n c (by rw [hu,he]) .i64 i (by omega) (by omega);rw [this,he];simp [sizeOf,typeInfo,hd,hsz,sliced]
theorem halves_more {ps:List (List Tm)} (h:1 < ps.length):halvesP ps = addP (halvesP (ps.take (ps.length / 2))) (halvesP (ps.drop (ps.length / 2))):=by rw [halvesP,dif_neg (by omega)]
theorem sumP_any (X:Nat -> Prop):∀ (n:Nat) (ps:List (List Tm)) (a:Option Addr) (c:Nat) (w:World),ps.length <= n -> n <= 1000000 -> (∀ b,X b -> b < w.heap.size) -> PartsX X w a c ps -> (∀ q,q <:+: ps -> FineP (halvesP q)) ->
  Calls Tryz.prog 77 #[.slice a ps.length c] w (RetP X (halvesP ps) w)
 | 0,ps,a,c,w,hn,_,hX,hp,hf=>by
  obtain rfl:ps = []:=List.eq_nil_of_length_eq_zero (by omega);rw [halves_nil];exact sum0_p X a c w
 | n + 1,ps,a,c,w,hn,hn2,hX,hp,hf=>by
  by_cases h0:ps.length = 0
  ·
   obtain rfl:ps = []:=List.eq_nil_of_length_eq_zero h0;rw [halves_nil];exact sum0_p X a c w
  ·
   by_cases h1:ps.length = 1
   ·
    obtain ⟨p,rfl⟩:∃ p,ps = [p]:=List.length_eq_one_iff.1 h1;rw [halves_one];obtain ⟨hs,hr,hA⟩:=hp;obtain ⟨s,hs0⟩:=get_of_lt (xs:=hs) (k:=0) (by rw [hA.1]; simp);obtain ⟨b,off,rfl,hc⟩:=hr.2.2 0 s hs0;obtain ⟨e1,e2⟩:=hA.2 0 s p hs0 rfl;rw [e1] at hc;exact sum1_p X p b off c s.a s.c w (by simpa using hc) e2
   ·
    obtain ⟨h,hh⟩:∃ h,ps.length / 2 = h:=⟨_,rfl⟩
    have hm:=halves_more (ps:=ps) (by omega);rw [hh] at hm;rw [hm];have hcap:=hp.cap;have C1:=fun W (hW:Below w.heap.size w W)=>sumP_any X n (ps.take h) a c W (by rw [List.length_take]; omega) (by omega) (fun b hb=>by have:=hX b hb; have:=hW.size; omega) ((hp.take h).call hW) (fun q hq=>hf q (hq.trans (List.take_prefix h ps).isInfix))
    have C2:=fun W (hW:Below w.heap.size w W)=>sumP_any X n (ps.drop h) (a.map (·.add (h * 1))) (c - h) W (by rw [List.length_drop]; omega) (by omega) (fun b hb=>by have:=hX b hb; have:=hW.size; omega) ((hp.drop h (by omega)).call hW) (fun q hq=>hf q (hq.trans (List.drop_suffix h ps).isInfix))
    have f1:=Hd (hf _ (List.take_prefix h ps).isInfix);have f2:=Hd (hf _ (List.drop_suffix h ps).isInfix);have hs1:=fun W=>slice_pq_h a ps.length c h (by omega) W
    have hs2:=fun W=>slice_pq_l a ps.length c h (by omega) W
    rw [if_neg (by omega)] at hs2;rw [List.length_take,Nat.min_eq_left (by omega)] at C1;rw [List.length_drop] at C2;have hz0:((ps.length:Int) == 0) = false:=by rw [beq_eq_false_iff_ne]; omega
    have hz1:((ps.length:Int) == 1) = false:=by rw [beq_eq_false_iff_ne]; omega
    have hq2:((ps.length:Int).tdiv 2) = (h:Int):=by rw [Int.tdiv_eq_ediv_of_nonneg (by omega)]; omega
    have hq3:((ps.length:Int) / 2) = (h:Int):=by omega
    have hX2:=Hd hX;have hhb:h <= 1000000:=by omega
    have hhc:h <= c:=by omega
    have hhm:h <= ps.length:=by omega
    have hwh:wrap64 (h:Int) = (h:Int):=IntWalk.wrap64_in _ ⟨by omega,by omega⟩;obtain ⟨P1,hP1⟩:∃ P,halvesP (ps.take h) = P:=⟨_,rfl⟩
    obtain ⟨P2,hP2⟩:∃ P,halvesP (ps.drop h) = P:=⟨_,rfl⟩
    rw [hP1] at f1;rw [hP2] at f2;rw [hP1,hP2];simp only [hP1] at C1;simp only [hP2] at C2;have s0:Below w.heap.size w w.drew:=brf.drew;obtain ⟨m,hml⟩:∃ m,ps.length = m:=⟨_,rfl⟩
    rw [hml] at hs1 hs2 C2 hz0 hz1 hq2 hq3 hhm ⊢;obtain ⟨a2,ha2⟩:∃ z,a.map (·.add (h * 1)) = z:=⟨_,rfl⟩
    rw [ha2] at C2 hs2;replace C1:=Hd C1; replace C2:=Hd C2; replace hml:=Hd hml;clear hp hf hm hX hP1 hP2 hh hcap ha2 h0 h1;go_enter Tryz.func77,Tryz.ntmps77;go_wp2;refine wp_region_mix (S:=(fun W=>Below w.heap.size w W)) [(0,.p),(1,.p),(2,.p),(4,.p),(5,.p),(6,.p),(3,.t),(7,.t),(8,.t),(9,.p)] (by kernel_rfl) (by kernel_rfl) (by kernel_rfl) (fun d _ _ _ _ h=>by cases d <;> exact h) (s0) ?_
    iterate 6 (refine wpMix_p rfl rfl (fun K hK=>?_); apply Exists.intro; refine ⟨fun w'=>?_,?_⟩; (focus (go_simp; try rfl)); go_simp; refine hK _ _ ?_; clear hK K)
    refine wpMix_t rfl rfl (fun K hK=>?_);go_simp;refine (C1.out w.drew s0).mono ?_;rintro e w1 ⟨a1,c1,rfl,hPa,hb1⟩;dsimp only;refine hK.out _ _ ?_;clear hK K;refine wpMix_t rfl rfl (fun K hK=>?_);go_simp;refine (C2.out w1 (bth s0 hb1)).mono ?_;rintro e w2 ⟨a3,c3,rfl,hPb,hb2⟩;dsimp only;refine hK.out _ _ ?_;clear hK K;refine wpMix_t rfl rfl (fun K hK=>?_);go_simp;refine (addS_p X P1 P2 a1 a3 c1 c3 w2 (fun b hb=>by have:=hX2.out b hb; have:=s0.size; have:=hb1.size; have:=hb2.size; omega) (hPa.call hb2) hPb f1.out f2.out).mono ?_;rintro e w3 ⟨a4,c4,rfl,hPc,hb3⟩;dsimp only;refine hK.out _ _ ?_;clear hK K
    iterate 1 (refine wpMix_p rfl rfl (fun K hK=>?_); apply Exists.intro; refine ⟨fun w'=>?_,?_⟩; (focus (go_simp; try rfl)); go_simp; refine hK _ _ ?_; clear hK K)
    refine wpMix_nil ?_;go_wp2;go_ret;exact ⟨a4,c4,rfl,hPc,bth (bth (bth s0 hb1) hb2) hb3⟩
def wtP (l:List Tm):Nat:=(l.map fun t=>qsz t.1 + 1).sum
theorem wtP_mem {l:List Tm} {u:Tm} (h:u ∈ l):qsz u.1 + 1 <= wtP l:=by
 unfold wtP
 induction l with
 | nil=>cases h
 | cons t l ih =>
  rw [List.map_cons,List.sum_cons];rcases List.mem_cons.1 h with rfl | h
  · omega
  · have:=ih h; omega
theorem wtP_len (l:List Tm):l.length <= wtP l:=by
 unfold wtP
 induction l with
 | nil=>simp
 | cons t l ih=>rw [List.map_cons,List.sum_cons,List.length_cons]; omega
def wtS (q:List (List Tm)):Nat:=(q.map wtP).sum
theorem wtS_app (p q:List (List Tm)):wtS (p ++ q) = wtS p + wtS q:=by unfold wtS; rw [List.map_append,List.sum_append]
theorem halves_wt:∀ (n:Nat) (q:List (List Tm)),q.length <= n -> (∀ u ∈ halvesP q,qsz u.1 + 1 <= wtS q) /\ (halvesP q).length <= wtS q
 | 0,q,h=>by
  obtain rfl:q = []:=List.eq_nil_of_length_eq_zero (by omega);rw [halves_nil];exact ⟨fun u hu=>(by cases hu),by simp⟩
 | n + 1,q,h=>by
  by_cases h1:q.length <= 1
  ·
   match q,h1 with
   | [],_=>rw [halves_nil]; exact ⟨fun u hu=>(by cases hu),by simp⟩
   | [p],_ =>
    rw [halves_one];have e:wtS [p] = wtP p:=by simp [wtS]
    rw [e];exact ⟨fun u hu=>wtP_mem hu,wtP_len p⟩
   | _ :: _ :: _,h1=>simp at h1
  ·
   have hm:halvesP q = addP (halvesP (q.take (q.length / 2))) (halvesP (q.drop (q.length / 2))):=by rw [halvesP,dif_neg h1]
   obtain ⟨a1,a2⟩:=halves_wt n (q.take (q.length / 2)) (by rw [List.length_take]; omega);obtain ⟨b1,b2⟩:=halves_wt n (q.drop (q.length / 2)) (by rw [List.length_drop]; omega);have hs:wtS q = wtS (q.take (q.length / 2)) + wtS (q.drop (q.length / 2)):=by rw [<- wtS_app,List.take_append_drop]
   rw [hm];refine ⟨fun u hu=>?_,by have:=addP_len (halvesP (q.take (q.length / 2))) (halvesP (q.drop (q.length / 2))); omega⟩;rcases addP_mem _ _ u hu with h2 | h2 | ⟨s,h3,t,h4,rfl,_⟩
   · have:=a1 u h2; omega
   · have:=b1 u h2; omega
   ·
    have e1:=a1 s h3;have e2:=b1 t h4;have:=qsz_add s.1 t.1
    show qsz (s.1 + t.1) + 1 <= _
    omega
def onesP (L:List Tm):List (List Tm):=(L.filter fun t=>!(decide (t.1 = 0))).map fun t=>[t]
theorem onesP_wt (L:List Tm):wtS (onesP L) <= wtP L:=by
 unfold onesP wtS wtP
 induction L with
 | nil=>simp
 | cons t L ih =>
  rw [List.filter_cons]
  split
  ·
   simp only [List.map_cons,List.map_nil,List.sum_cons,List.sum_nil]
   omega
  · rw [List.map_cons,List.sum_cons]; omega
theorem onesP_succ {L:List Tm} {k:Nat} {u:Tm} (h:L[k]? = some u):onesP (L.take (k + 1)) = if u.1 = 0 then onesP (L.take k) else onesP (L.take k) ++ [[u]]:=by
 unfold onesP;rw [take_more h,List.filter_append,List.map_append];by_cases h0:u.1 = 0
 · rw [if_pos h0]; simp [h0]
 · rw [if_neg h0]; simp [h0]
theorem onesP_len (L:List Tm):(onesP L).length <= L.length:=by unfold onesP; rw [List.length_map]; exact List.length_filter_le _ _
theorem ones_fine {L:List Tm} (hM:∀ t ∈ L,Mok 1048576 t.2) (hw:wtP L <= 1001):∀ q,q <:+: onesP L -> FineP (halvesP q):=fun q hq=>by
 obtain ⟨s,t,he⟩:=hq;have hle:wtS q <= 1001:=by
  have h1:=onesP_wt L;rw [<- he,wtS_app,wtS_app] at h1
  omega
 have hpok:∀ p ∈ q,Pok 1048576 p:=fun p hp=>by
  have hp2:p ∈ onesP L:=by rw [<- he]; simp [hp]
  unfold onesP at hp2;obtain ⟨x,hx,rfl⟩:=List.mem_map.1 hp2;rw [List.mem_filter] at hx;exact (Pok.nil _).cons (hM x hx.1) (by simpa using hx.2) fun s hs=>by cases hs
 obtain ⟨h1,h2⟩:=halves_wt q.length q (nlr _);have hk:=(halvesP_ok q hpok).1;exact ⟨by omega,fun u hu=>⟨(hk.1 u hu).1,(hk.1 u hu).2,by have:=h1 u hu; omega⟩⟩
theorem cutM_self {B:Int} {m:List Int} (h:Mok B m):cutM m = m:=by
 cases hm:m.reverse with
 | nil => have : m = [] := by simpa using hm
          subst this; rfl
 | cons x r =>
  have h1:m = (x :: r).reverse:=by rw [<- hm,List.reverse_reverse]
  have h2:m[m.length - 1]? = some x:=by rw [h1]; simp
  have hx:x ≠ 0:=fun e=>h.2.1 (by rw [h2,e])
  unfold cutM;rw [hm,List.dropWhile_cons,if_neg (by simpa using hx),<- hm,List.reverse_reverse]
theorem monoB_mok {m:List Int} (h:Mok 1048576 m):monoB m = true:=by
 refine monoB_good h.2.2 h.2.1 ?_;rw [List.all_eq_true];exact fun x hx=>by simpa using h.1 x hx
theorem low_of0:lowest (decide ((0:Int) < 0)) (0:Int).natAbs 1 = trip 0:=by
 have:=lowest_z 0 1;rw [this]
 rfl
theorem qsz_of0:qsz 0 <= 1:=qsz_le (limbs_len_le (by decide)) (limbs_len_le (by decide))
theorem of0_q (w:World):Calls Tryz.prog 59 #[.int .i64 0] w (RetQK 1 0 w):=by
 have:=qint_any 0 w ⟨by omega,by omega⟩;rw [low_of0] at this;exact this.mono fun _ _ h=>retF_q qsz_of0 h
theorem slice_mono_h (a:Option Addr) (m c n:Nat) (hn:n <= c) (w:World) :
  (Instr.slice 55 (.slice a m c) none (some (.int .i64 (n:Int))) none).run Tryz.prog w = .ok (.slice a n c) w:=by
 obtain ⟨d,hd,hz,hsz,hby⟩:=info_parts infoZ;have hu:=Tryz.underlying55;have he:Tryz.prog.elem 55 = 3:=by unfold Program.elem; rw [hu]
 have:=run_slice_h (P:=Tryz.prog) (w:=w) 55 a m c (by rw [hu,he]) .i64 n (by omega) (by omega);rw [this,he];simp [sizeOf,typeInfo,hd,hsz,sliced];intro _
 cases a <;> rfl
theorem single0_p (X:Nat -> Prop) (x:QA) (a:Option Addr) (n ca:Nat) (w:World) (hx:QK 1000 w x 0) :
  Calls Tryz.prog 74 #[.agg #[.bool x.neg,.slice x.a x.n x.c,.slice x.b x.m x.d],.slice a n ca] w (RetP X [] w):=by
 have CS:=Hd (fun W (hW:Below w.heap.size w W)=>sign_q x 0 1000 W (hx.ext (xbw hW)) (by omega));have hsg:sgnQ 0 = 0:=sgnQ_zero.2 rfl;rw [hsg] at CS;clear hx hsg;go_enter Tryz.func74,Tryz.ntmps74;go_wp2_with fail;refine calls_gen (fun W=>Below w.heap.size w W) (by go_grown) ?_;rintro w0 hw0;refine (CS.out _ hw0).mono ?_;rintro e w1 ⟨rfl,hb1⟩;go_wp2;go_ret;exact ⟨none,0,rfl,PolX.nil,bth hw0 hb1⟩
theorem AllP.app {X:Nat -> Prop} {w w':World} {a a':Option Addr} {c n:Nat} {hs:List PQ} {ps:List (List Tm)} (h:AllP (Xr X a) w hs ps) (hg:w.grownBy w' (Value.ownBlock (.slice a n c))) (ha:∃ g,a' = some ⟨g,0,none⟩ /\ (a = some ⟨g,0,none⟩ \/ g = w.heap.size)):AllP (Xr X a') w' hs ps :=
 ⟨h.1,fun k s p h1 h2=>⟨(h.2 k s p h1 h2).1,(h.2 k s p h1 h2).2.map fun _ r=>r.app hg ha⟩⟩
theorem AllP.step {X:Nat -> Prop} {w w':World} {hs:List PQ} {ps:List (List Tm)} (h:AllP X w hs ps) (e:Agr X w w'):AllP X w' hs ps:=⟨h.1,fun k s p h1 h2=>⟨(h.2 k s p h1 h2).1,(h.2 k s p h1 h2).2.step e⟩⟩
theorem AllP.push {X:Nat -> Prop} {w:World} {hs:List PQ} {ps:List (List Tm)} {s:PQ} {p:List Tm} (h:AllP X w hs ps) (hn:s.n = p.length) (hp:PolX X w s.a s.c p):AllP X w (hs ++ [s]) (ps ++ [p]) :=
 ⟨by rw [List.length_append,List.length_append,h.1]; rfl,fun k s' p' h1 h2=>by
  rcases Nat.lt_or_ge k hs.length with e | e
  ·
   rw [List.getElem?_append_left e] at h1;rw [List.getElem?_append_left (by rw [<- h.1]; exact e)] at h2;exact h.2 k s' p' h1 h2
  ·
   rw [List.getElem?_append_right e] at h1;rw [List.getElem?_append_right (by rw [<- h.1]; exact e),<- h.1] at h2
   cases hk:k - hs.length with
   | zero=>rw [hk] at h1 h2; simp at h1 h2; subst h1 h2; exact ⟨hn,hp⟩
   | succ j=>rw [hk] at h1; simp at h1⟩
theorem OwnPq.parts {X:Nat -> Prop} {w:World} {B:Nat} {a:Option Addr} {c:Nat} {hs:List PQ} {ps:List (List Tm)} (ho:OwnPq B w a c hs) (h:AllP (Xr X a) w hs ps) (hX:∀ b,X b -> b < B):PartsX X w a c ps:=by
 refine ⟨hs,?_,h.1,fun k s p h1 h2=>⟨(h.2 k s p h1 h2).1,(h.2 k s p h1 h2).2.map fun _ r=>r.less fun b hb=>.inl hb⟩⟩;refine ho.readsX (X:=X) hs rfl PQ.cs_len (Agr.refl X w) (fun g hg hx=>by have:=hX _ hx; have:=(ho.lt hg).1; omega) fun b o k x y h1 h2 hc=>?_
 rw [h1] at h2;injection h2 with h2
 subst h2;simpa using hc 0 _ rfl
theorem normS_p (X:Nat -> Prop) (L:List Tm) (a:Option Addr) (c:Nat) (w:World) (hX:∀ b,X b -> b < w.heap.size) (hp:PolX X w a c L) (hM:∀ t ∈ L,Mok 1048576 t.2) (hq:∀ t ∈ L,qsz t.1 <= 1000) (hw:wtP L <= 1001) :
  Calls Tryz.prog 35 #[.slice a L.length c] w (RetP X (halvesP (onesP L)) w):=by
 have hll:=wtP_len L;have hfi:=Hd (ones_fine hM hw);have hol:=Hd (onesP_len L);have HP:=Hd hp; have HX:=Hd hX; have HM:=Hd hM; have HQL:=Hd hq;have hLl:L.length <= 1001:=by omega
 clear hp hX hM hq hw hll;go_enter Tryz.func35,Tryz.ntmps35;go_wp2;obtain ⟨wo,rfl⟩:∃ wo:World,wo = w:=⟨_,rfl⟩
 go_loopg [3,5,6,7,10] L.length (fun gk o _ _ _ i wr=>∃ (k:Nat) (hs:List PQ) (ra:Option Addr) (rc:Nat),Hid (k + gk = L.length) /\ o = .slice ra hs.length rc /\ i = .int .i64 k /\ Hid (OwnPq wo.heap.size wr ra rc hs) /\ Hid (AllP (Xr X ra) wr hs (onesP (L.take k))) /\ Below wo.heap.size wo wr)
 case atStart=>exact ⟨0,[],none,0,by show _ = _; omega,rfl,rfl,Own.nil,⟨rfl,fun k s p h=>by simp at h⟩,Below.refl _ _⟩
 case round =>
  obtain ⟨k,hs,ra,rc,hk,rfl,rfl,ho,hA,hwr⟩:=hrel;by_cases hlt:k < L.length
  ·
   obtain ⟨u,hu⟩:=get_of_lt hlt;obtain ⟨b,off,t,rfl,hAt,hRt⟩:=HP.out.get hu;obtain ⟨c0,c1,c2,c3⟩:=hAt;have d0:=held c0 wr hwr; have d1:=held c1 wr hwr; have d2:=held c2 wr hwr; have d3:=held c3 wr hwr;have hbl:b < wr.heap.size:=World.block_lt_of_cell? wr _ d0;have hmu:=HM.out u (List.mem_of_getElem? hu);have hqu:=Hd (HQL.out u (List.mem_of_getElem? hu));have hsu:=Hd (onesP_succ hu);have hRw:=Hd (fun W (hW:Below wo.heap.size wo W)=>(hRt.call hW).now);have htn:t.n = u.2.length:=(hRt.now).2.2;have hml:=hmu.2.2;have hol2:=Hd (show hs.length <= 1001 by have h1:=hA.out.1; have h2:=onesP_len (L.take k); rw [List.length_take] at h2; omega);replace htn:=Hd htn; replace hmu:=Hd hmu;obtain ⟨wx,rfl⟩:∃ wx:World,wx = wr:=⟨_,rfl⟩
   obtain ⟨gk0,rfl⟩:∃ n,n = gk:=⟨_,rfl⟩
   clear c0 c1 c2 c3 hRt hu;go_wp2;refine world_gen (fun W=>Blk W wx.heap.size 57 #[.bool t.x.neg,.slice t.x.a t.x.n t.x.c,.slice t.x.b t.x.m t.x.d,.slice t.a t.n t.c] /\ Below wx.heap.size wx W) ⟨Blk.new wx _ _,by go_grown⟩ ?_;rintro w2 ⟨hz2,hb2⟩;obtain ⟨g5,hg5⟩:∃ q,wx.heap.size = q:=⟨_,rfl⟩
   rw [hg5] at hz2 ⊢;replace hg5:=Hd hg5;have hw2:=bth hwr hb2;have ho2:=Hd (ho.out.below hb2);have hA2:=Hd (hA.out.call hb2);clear d0 d1 d2 d3 hbl ho hA hwr hb2;have z0:=hz2.cell 0; have z1:=hz2.cell 1; have z2:=hz2.cell 2; have z3:=hz2.cell 3;have hzl:=hz2.lt;have hR2:=hRw.out w2 hw2;have hI2:=hR2.2.1;have hcap:=hI2.1;obtain ⟨n,hn⟩:∃ n,t.n = n:=⟨_,rfl⟩
   rw [hn] at z3
   try rw [hn]
   replace hn:=Hd hn;obtain ⟨ta,hta0⟩:∃ q,t.a = q:=⟨_,rfl⟩
   rw [hta0] at z3 hI2
   try rw [hta0]
   replace hta0:=Hd hta0;have hnu:n = u.2.length:=by rw [<- hn.out]; exact htn.out
   have hlast:0 < n -> ∃ x,u.2[n - 1]? = some x /\ x ≠ 0:=fun h=>by
    obtain ⟨x,hx⟩:=get_of_lt (xs:=u.2) (k:=n - 1) (by omega);exact ⟨x,hx,fun e=>hmu.out.2.1 (by rw [<- hnu,hx,e])⟩
   have hsl:=fun W=>slice_mono_h ta n t.c n (by omega) W
   have CR:=Hd (fun W (hI:IntsR W ta t.c u.2)=>monoP_any u.2 ta t.c W hI);rw [monoB_mok hmu.out,<- hnu] at CR;have hn64:n <= 64:=by omega
   replace hnu:=Hd hnu; replace hlast:=Hd hlast;have HI:=Hd hI2;have HZ:=Hd hz2;clear hR2 hI2 hz2
   go_loopg [6] 0 (fun _ q w3=>q = .int .i64 n /\ w2 = w3)
   case atStart=>exact ⟨by first | rfl | (rw [hn.out]),rfl⟩
   case round =>
    obtain ⟨rfl,rfl⟩:=hrel;by_cases hn0:n = 0
    ·
     have hnz:decide (0 < n) = false:=by rw [decide_eq_false]; omega
     have hnz2:¬ (0:Int) < (n:Int):=by omega
     replace hn0:=Hd hn0;go_wp2_with fail;refine (CR.out w2 HI.out).mono ?_;rintro e w' ⟨rfl,rfl⟩;have s0:Below w2.heap.size w2 w2.drew:=brf.drew;have y0:=held z0; have y1:=held z1; have y2:=held z2; have y3:=held z3;have HQ:=Hd (fun W (hW:Below w2.heap.size w2 W)=>(show QK 1000 W t.x u.1 from ⟨(hRw.out W (bth hw2 hW)).1,hqu.out⟩));have CNM:=Hd (fun W (hW:Below w2.heap.size w2 W)=>normM_any u.2 _ t.c W (HI.out.ext (xbw hW)) (by omega));rw [cutM_self hmu.out,if_pos (monoB_mok hmu.out),<- hnu.out] at CNM;by_cases hu0:u.1 = 0
     ·
      have hs2:=hsu.out;rw [if_pos hu0] at hs2;replace hs2:=Hd hs2;clear CR hsl z0 z1 z2 z3;go_wp2;refine wp_region_mix (S:=(fun W=>Below w2.heap.size w2 W)) [(0,.q),(1,.q),(4,.q),(5,.q),(2,.l),(3,.l),(6,.t),(7,.t),(8,.p)] (by kernel_rfl) (by kernel_rfl) (by kernel_rfl) (fun d _ _ _ _ h=>by cases d <;> exact h) (s0) ?_
      iterate 4 (refine wpMix_q rfl rfl (fun K hK=>?_); apply Exists.intro; refine ⟨fun w' hw'=>?_,?_⟩; (focus (go_simp; try rfl)); go_simp; refine hK _ _ ?_; clear hK K)
      refine wpMix_l rfl rfl (fun K hK=>?_);go_simp;refine (of0_q w2.drew).mono ?_;rintro e wa ⟨x0,rfl,hK0,hba⟩;dsimp only;refine hK.out _ _ (s0.trans (hba.mono s0.size)) (fun _=>?_);clear hK K;refine wpMix_l rfl rfl (fun K hK=>?_);go_simp;refine (add_q t.x x0 u.1 0 1000 1 wa (HQ.out wa (s0.trans (hba.mono s0.size))) (hK0.now) (by omega) (by omega)).mono ?_;rintro e wb ⟨x1,rfl,hK1,hbb⟩;dsimp only;refine hK.out _ _ ((s0.trans (hba.mono s0.size)).trans (hbb.mono (Nat.le_trans s0.size hba.size))) (fun _=>?_);clear hK K;refine wpMix_t rfl rfl (fun K hK=>?_);go_simp;refine (CNM.out wb ((s0.trans (hba.mono s0.size)).trans (hbb.mono (Nat.le_trans s0.size hba.size)))).mono ?_;rintro e wc ⟨a3,c3,rfl,hKm,hbc⟩;dsimp only;refine hK.out _ _ ?_;clear hK K;have hbw:=Hd (bth (bth (s0.trans (hba.mono s0.size)) hbb) hbc);have hq1:QK 1000 wc x1 u.1:=by
       have:=(hK1.call hbc).now;rw [Rat.add_zero] at this;exact ⟨this.1,hqu.out⟩
      rw [hu0] at hq1;refine wpMix_t rfl rfl (fun K hK=>?_);go_simp;refine (single0_p (fun _=>False) x1 a3 _ c3 wc hq1).mono ?_;rintro e wd ⟨a4,c4,rfl,hP4,hbd⟩;dsimp only;refine hK.out _ _ ?_;clear hK K
      iterate 1 (refine wpMix_p rfl rfl (fun K hK=>?_); apply Exists.intro; refine ⟨fun w'=>?_,?_⟩; (focus (go_simp; try rfl)); go_simp; refine hK _ _ ?_; clear hK K)
      refine wpMix_nil ?_;have hw4:=Hd (bth hw2 (bth hbw.out hbd));have ho4:=Hd (ho2.out.below (bth hbw.out hbd));have hA4:=Hd (hA2.out.call (bth hbw.out hbd));clear y0 y1 y2 y3 hbw hq1 hbd hba hbb hbc hK0 hK1 hKm hP4 s0;replace hu0:=Hd hu0;go_wp2;go_roundg (gk0 - 1)
      case rel=>exact ⟨k + 1,hs,ra,rc,by have:=hk.out; show _ = _; omega,rfl,by go_num,ho4.out,by rw [hs2.out]; exact hA4.out,hw4.out⟩
      case measure=>have:=hk.out; omega
     ·
      have hs2:=hsu.out;rw [if_neg hu0] at hs2;replace hs2:=Hd hs2; replace hu0:=Hd hu0;clear CR hsl z0 z1 z2 z3;go_wp2;refine wp_region_mix (S:=(fun W=>Below w2.heap.size w2 W)) [(0,.q),(1,.q),(4,.q),(5,.q),(2,.l),(3,.l),(6,.t),(7,.t),(8,.p)] (by kernel_rfl) (by kernel_rfl) (by kernel_rfl) (fun d _ _ _ _ h=>by cases d <;> exact h) (s0) ?_
      iterate 4 (refine wpMix_q rfl rfl (fun K hK=>?_); apply Exists.intro; refine ⟨fun w' hw'=>?_,?_⟩; (focus (go_simp; try rfl)); go_simp; refine hK _ _ ?_; clear hK K)
      refine wpMix_l rfl rfl (fun K hK=>?_);go_simp;refine (of0_q w2.drew).mono ?_;rintro e wa ⟨x0,rfl,hK0,hba⟩;dsimp only;refine hK.out _ _ (s0.trans (hba.mono s0.size)) (fun _=>?_);clear hK K;refine wpMix_l rfl rfl (fun K hK=>?_);go_simp;refine (add_q t.x x0 u.1 0 1000 1 wa (HQ.out wa (s0.trans (hba.mono s0.size))) (hK0.now) (by omega) (by omega)).mono ?_;rintro e wb ⟨x1,rfl,hK1,hbb⟩;dsimp only;refine hK.out _ _ ((s0.trans (hba.mono s0.size)).trans (hbb.mono (Nat.le_trans s0.size hba.size))) (fun _=>?_);clear hK K;refine wpMix_t rfl rfl (fun K hK=>?_);go_simp;refine (CNM.out wb ((s0.trans (hba.mono s0.size)).trans (hbb.mono (Nat.le_trans s0.size hba.size)))).mono ?_;rintro e wc ⟨a3,c3,rfl,hKm,hbc⟩;dsimp only;refine hK.out _ _ ?_;clear hK K;have hbw:=Hd (bth (bth (s0.trans (hba.mono s0.size)) hbb) hbc);have hq1:QK 1000 wc x1 u.1:=by
       have:=(hK1.call hbc).now;rw [Rat.add_zero] at this;exact ⟨this.1,hqu.out⟩
      have hXr:∀ b,Xr X ra b -> b < w2.heap.size:=fun b hb=>by
       rcases hb with hb | ⟨q,hq,rfl⟩
       · have:=HX.out b hb; have:=hw2.size; omega
       · exact (ho2.out.lt hq).2
      have hmr:Rd (Xr X ra) wc (fun V=>IntsR V a3 c3 u.2):=Rd.kp hKm fun b hb=>.inl (by have:=hXr b hb; have:=(s0.trans (hba.mono s0.size)).size; have:=hbb.size; omega)
      have hxr:Rd (Xr X ra) wc (fun V=>QAc V x1 u.1):=by
       have h1:=(hK1.call hbc).imp (R':=fun V=>QAc V x1 u.1) fun V h=>by have:=h.1; rwa [Rat.add_zero] at this
       exact Rd.kp h1 fun b hb=>.inl (by have:=hXr b hb; have:=(s0.trans (hba.mono s0.size)).size; omega)
      have CSG:=singleS_p (Xr X ra) x1 u.1 u.2 a3 c3 wc (fun b hb=>by have:=hXr b hb; have:=hbw.out.size; omega) hxr hqu.out hu0.out hmr;replace CSG:=Hd CSG;clear hXr hmr hxr;refine wpMix_t rfl rfl (fun K hK=>?_);go_simp;refine (CSG.out).mono ?_;rintro e wd ⟨a4,c4,rfl,hP4,hbd⟩;dsimp only;refine hK.out _ _ ?_;clear hK K
      iterate 1 (refine wpMix_p rfl rfl (fun K hK=>?_); apply Exists.intro; refine ⟨fun w'=>?_,?_⟩; (focus (go_simp; try rfl)); go_simp; refine hK _ _ ?_; clear hK K)
      refine wpMix_nil ?_;have hw4:=Hd (bth hw2 (bth hbw.out hbd));have ho4:=Hd ((ho2.out.below (bth hbw.out hbd)).alloc (.cells #[.slice a4 1 c4] 23));have hA4:=Hd (((hA2.out.call (bth hbw.out hbd)).step ((Agr.refl _ _).alloc (.cells #[.slice a4 1 c4] 23))).push (s:=⟨1,a4,c4⟩) (p:=[(u.1,u.2)]) rfl (hP4.step ((Agr.refl _ _).alloc _)));have hcl:Hid (∀ j v,(PQ.cs ⟨1,a4,c4⟩)[j]? = some v -> (wd.alloc (.cells #[.slice a4 1 c4] 23)).cell? ⟨wd.heap.size,j,none⟩ = some v):=Hd fun j v hj=>by
       cases j with
       | zero=>simp [PQ.cs] at hj; subst hj; exact (Blk.new wd 23 #[.slice a4 1 c4]).cell 0
       | succ j=>simp [PQ.cs] at hj
      have hlen1:([(u.1,u.2)]:List Tm).length = 1:=rfl;clear y0 y1 y2 y3 hbw hq1 hbd hba hbb hbc hK0 hK1 hKm hP4 s0 CSG;go_wp2_with (at_builtin; go_must (refine wpList_append_1 (B:=wo.heap.size) rfl (.tmp 47) (.tmp 49) 37 rfl Tryz.underlying37 infoPq rfl (by omega) (by omega) PQ.cs_len ra rc (l:=hs) rfl ho4.out ⟨1,a4,c4⟩ (PQ.cs_one _) wd.heap.size 1 rfl hcl.out (hs ++ [⟨1,a4,c4⟩]) rfl (by have:=hol2.out; rw [List.length_append]; simp; omega) (by have:=hw4.out.size; simp; omega) ?_); intro ra6 rc6 w6 ho6 hg6 ha6);have hA6:=Hd (hA4.out.app hg6 ha6);have hw6:=Hd (show Below wo.heap.size wo w6 from below_append' (hw4.out.alloc hw4.out.size (.cells #[.slice a4 1 c4] 23)) ho4.out hg6);replace ho6:=Hd ho6;clear hg6 ha6;go_roundg (gk0 - 1)
      case rel=>exact ⟨k + 1,hs ++ [(⟨1,a4,c4⟩:PQ)],ra6,rc6,by have:=hk.out; show _ = _; omega,by simp,by go_num,ho6.out,by rw [hs2.out]; exact hA6.out,hw6.out⟩
      case measure=>have:=hk.out; omega
    ·
     have hnz:decide (0 < n) = true:=by rw [decide_eq_true_eq]; omega
     have hnz2:(0:Int) < (n:Int):=by omega
     obtain ⟨x,hx,hx0⟩:=hlast.out (by omega);obtain ⟨bm,om,rfl,hcx,_⟩:=ints_cell HI.out hx;have hxb:(x == 0) = false:=by rw [beq_eq_false_iff_ne]; exact hx0
     have hn1:((n:Int) - 1) = ((n - 1:Nat):Int):=by omega
     replace hx0:=Hd hx0; replace hn0:=Hd hn0;clear hx;go_wp2_with fail;refine (CR.out w2 HI.out).mono ?_;rintro e w' ⟨rfl,rfl⟩;have s0:Below w2.heap.size w2 w2.drew:=brf.drew;have y0:=held z0; have y1:=held z1; have y2:=held z2; have y3:=held z3;have HQ:=Hd (fun W (hW:Below w2.heap.size w2 W)=>(show QK 1000 W t.x u.1 from ⟨(hRw.out W (bth hw2 hW)).1,hqu.out⟩));have CNM:=Hd (fun W (hW:Below w2.heap.size w2 W)=>normM_any u.2 _ t.c W (HI.out.ext (xbw hW)) (by omega));rw [cutM_self hmu.out,if_pos (monoB_mok hmu.out),<- hnu.out] at CNM;by_cases hu0:u.1 = 0
     ·
      have hs2:=hsu.out;rw [if_pos hu0] at hs2;replace hs2:=Hd hs2;clear CR hsl z0 z1 z2 z3;go_wp2;refine wp_region_mix (S:=(fun W=>Below w2.heap.size w2 W)) [(0,.q),(1,.q),(4,.q),(5,.q),(2,.l),(3,.l),(6,.t),(7,.t),(8,.p)] (by kernel_rfl) (by kernel_rfl) (by kernel_rfl) (fun d _ _ _ _ h=>by cases d <;> exact h) (s0) ?_
      iterate 4 (refine wpMix_q rfl rfl (fun K hK=>?_); apply Exists.intro; refine ⟨fun w' hw'=>?_,?_⟩; (focus (go_simp; try rfl)); go_simp; refine hK _ _ ?_; clear hK K)
      refine wpMix_l rfl rfl (fun K hK=>?_);go_simp;refine (of0_q w2.drew).mono ?_;rintro e wa ⟨x0,rfl,hK0,hba⟩;dsimp only;refine hK.out _ _ (s0.trans (hba.mono s0.size)) (fun _=>?_);clear hK K;refine wpMix_l rfl rfl (fun K hK=>?_);go_simp;refine (add_q t.x x0 u.1 0 1000 1 wa (HQ.out wa (s0.trans (hba.mono s0.size))) (hK0.now) (by omega) (by omega)).mono ?_;rintro e wb ⟨x1,rfl,hK1,hbb⟩;dsimp only;refine hK.out _ _ ((s0.trans (hba.mono s0.size)).trans (hbb.mono (Nat.le_trans s0.size hba.size))) (fun _=>?_);clear hK K;refine wpMix_t rfl rfl (fun K hK=>?_);go_simp;refine (CNM.out wb ((s0.trans (hba.mono s0.size)).trans (hbb.mono (Nat.le_trans s0.size hba.size)))).mono ?_;rintro e wc ⟨a3,c3,rfl,hKm,hbc⟩;dsimp only;refine hK.out _ _ ?_;clear hK K;have hbw:=Hd (bth (bth (s0.trans (hba.mono s0.size)) hbb) hbc);have hq1:QK 1000 wc x1 u.1:=by
       have:=(hK1.call hbc).now;rw [Rat.add_zero] at this;exact ⟨this.1,hqu.out⟩
      rw [hu0] at hq1;refine wpMix_t rfl rfl (fun K hK=>?_);go_simp;refine (single0_p (fun _=>False) x1 a3 _ c3 wc hq1).mono ?_;rintro e wd ⟨a4,c4,rfl,hP4,hbd⟩;dsimp only;refine hK.out _ _ ?_;clear hK K
      iterate 1 (refine wpMix_p rfl rfl (fun K hK=>?_); apply Exists.intro; refine ⟨fun w'=>?_,?_⟩; (focus (go_simp; try rfl)); go_simp; refine hK _ _ ?_; clear hK K)
      refine wpMix_nil ?_;have hw4:=Hd (bth hw2 (bth hbw.out hbd));have ho4:=Hd (ho2.out.below (bth hbw.out hbd));have hA4:=Hd (hA2.out.call (bth hbw.out hbd));clear y0 y1 y2 y3 hbw hq1 hbd hba hbb hbc hK0 hK1 hKm hP4 s0;replace hu0:=Hd hu0;go_wp2;go_roundg (gk0 - 1)
      case rel=>exact ⟨k + 1,hs,ra,rc,by have:=hk.out; show _ = _; omega,rfl,by go_num,ho4.out,by rw [hs2.out]; exact hA4.out,hw4.out⟩
      case measure=>have:=hk.out; omega
     ·
      have hs2:=hsu.out;rw [if_neg hu0] at hs2;replace hs2:=Hd hs2; replace hu0:=Hd hu0;clear CR hsl z0 z1 z2 z3;go_wp2;refine wp_region_mix (S:=(fun W=>Below w2.heap.size w2 W)) [(0,.q),(1,.q),(4,.q),(5,.q),(2,.l),(3,.l),(6,.t),(7,.t),(8,.p)] (by kernel_rfl) (by kernel_rfl) (by kernel_rfl) (fun d _ _ _ _ h=>by cases d <;> exact h) (s0) ?_
      iterate 4 (refine wpMix_q rfl rfl (fun K hK=>?_); apply Exists.intro; refine ⟨fun w' hw'=>?_,?_⟩; (focus (go_simp; try rfl)); go_simp; refine hK _ _ ?_; clear hK K)
      refine wpMix_l rfl rfl (fun K hK=>?_);go_simp;refine (of0_q w2.drew).mono ?_;rintro e wa ⟨x0,rfl,hK0,hba⟩;dsimp only;refine hK.out _ _ (s0.trans (hba.mono s0.size)) (fun _=>?_);clear hK K;refine wpMix_l rfl rfl (fun K hK=>?_);go_simp;refine (add_q t.x x0 u.1 0 1000 1 wa (HQ.out wa (s0.trans (hba.mono s0.size))) (hK0.now) (by omega) (by omega)).mono ?_;rintro e wb ⟨x1,rfl,hK1,hbb⟩;dsimp only;refine hK.out _ _ ((s0.trans (hba.mono s0.size)).trans (hbb.mono (Nat.le_trans s0.size hba.size))) (fun _=>?_);clear hK K;refine wpMix_t rfl rfl (fun K hK=>?_);go_simp;refine (CNM.out wb ((s0.trans (hba.mono s0.size)).trans (hbb.mono (Nat.le_trans s0.size hba.size)))).mono ?_;rintro e wc ⟨a3,c3,rfl,hKm,hbc⟩;dsimp only;refine hK.out _ _ ?_;clear hK K;have hbw:=Hd (bth (bth (s0.trans (hba.mono s0.size)) hbb) hbc);have hq1:QK 1000 wc x1 u.1:=by
       have:=(hK1.call hbc).now;rw [Rat.add_zero] at this;exact ⟨this.1,hqu.out⟩
      have hXr:∀ b,Xr X ra b -> b < w2.heap.size:=fun b hb=>by
       rcases hb with hb | ⟨q,hq,rfl⟩
       · have:=HX.out b hb; have:=hw2.size; omega
       · exact (ho2.out.lt hq).2
      have hmr:Rd (Xr X ra) wc (fun V=>IntsR V a3 c3 u.2):=Rd.kp hKm fun b hb=>.inl (by have:=hXr b hb; have:=(s0.trans (hba.mono s0.size)).size; have:=hbb.size; omega)
      have hxr:Rd (Xr X ra) wc (fun V=>QAc V x1 u.1):=by
       have h1:=(hK1.call hbc).imp (R':=fun V=>QAc V x1 u.1) fun V h=>by have:=h.1; rwa [Rat.add_zero] at this
       exact Rd.kp h1 fun b hb=>.inl (by have:=hXr b hb; have:=(s0.trans (hba.mono s0.size)).size; omega)
      have CSG:=singleS_p (Xr X ra) x1 u.1 u.2 a3 c3 wc (fun b hb=>by have:=hXr b hb; have:=hbw.out.size; omega) hxr hqu.out hu0.out hmr;replace CSG:=Hd CSG;clear hXr hmr hxr;refine wpMix_t rfl rfl (fun K hK=>?_);go_simp;refine (CSG.out).mono ?_;rintro e wd ⟨a4,c4,rfl,hP4,hbd⟩;dsimp only;refine hK.out _ _ ?_;clear hK K
      iterate 1 (refine wpMix_p rfl rfl (fun K hK=>?_); apply Exists.intro; refine ⟨fun w'=>?_,?_⟩; (focus (go_simp; try rfl)); go_simp; refine hK _ _ ?_; clear hK K)
      refine wpMix_nil ?_;have hw4:=Hd (bth hw2 (bth hbw.out hbd));have ho4:=Hd ((ho2.out.below (bth hbw.out hbd)).alloc (.cells #[.slice a4 1 c4] 23));have hA4:=Hd (((hA2.out.call (bth hbw.out hbd)).step ((Agr.refl _ _).alloc (.cells #[.slice a4 1 c4] 23))).push (s:=⟨1,a4,c4⟩) (p:=[(u.1,u.2)]) rfl (hP4.step ((Agr.refl _ _).alloc _)));have hcl:Hid (∀ j v,(PQ.cs ⟨1,a4,c4⟩)[j]? = some v -> (wd.alloc (.cells #[.slice a4 1 c4] 23)).cell? ⟨wd.heap.size,j,none⟩ = some v):=Hd fun j v hj=>by
       cases j with
       | zero=>simp [PQ.cs] at hj; subst hj; exact (Blk.new wd 23 #[.slice a4 1 c4]).cell 0
       | succ j=>simp [PQ.cs] at hj
      have hlen1:([(u.1,u.2)]:List Tm).length = 1:=rfl;clear y0 y1 y2 y3 hbw hq1 hbd hba hbb hbc hK0 hK1 hKm hP4 s0 CSG;go_wp2_with (at_builtin; go_must (refine wpList_append_1 (B:=wo.heap.size) rfl (.tmp 47) (.tmp 49) 37 rfl Tryz.underlying37 infoPq rfl (by omega) (by omega) PQ.cs_len ra rc (l:=hs) rfl ho4.out ⟨1,a4,c4⟩ (PQ.cs_one _) wd.heap.size 1 rfl hcl.out (hs ++ [⟨1,a4,c4⟩]) rfl (by have:=hol2.out; rw [List.length_append]; simp; omega) (by have:=hw4.out.size; simp; omega) ?_); intro ra6 rc6 w6 ho6 hg6 ha6);have hA6:=Hd (hA4.out.app hg6 ha6);have hw6:=Hd (show Below wo.heap.size wo w6 from below_append' (hw4.out.alloc hw4.out.size (.cells #[.slice a4 1 c4] 23)) ho4.out hg6);replace ho6:=Hd ho6;clear hg6 ha6;go_roundg (gk0 - 1)
      case rel=>exact ⟨k + 1,hs ++ [(⟨1,a4,c4⟩:PQ)],ra6,rc6,by have:=hk.out; show _ = _; omega,by simp,by go_num,ho6.out,by rw [hs2.out]; exact hA6.out,hw6.out⟩
      case measure=>have:=hk.out; omega
  ·
   have hkl:k = L.length:=by have:=hk.out; omega
   subst hkl;rw [List.take_length] at hA;have hpt:=ho.out.parts hA.out HX.out;have hlen:=hA.out.1;have CS:=sumP_any X (onesP L).length (onesP L) ra rc wr (nlr _) (by have:=hol.out; omega) (fun b hb=>by have:=HX.out b hb; have:=hwr.size; omega) hpt hfi.out;rw [<- hlen] at CS;replace CS:=Hd CS; replace hlen:=Hd hlen;clear hpt ho hA;go_wp2_with fail;refine CS.out.mono ?_;rintro e w9 ⟨a9,c9,rfl,hP9,hb9⟩;go_wp2;go_ret;exact ⟨a9,c9,rfl,hP9,bth hwr hb9⟩
def Wok (names:List ByteArray) (l:List UInt8):Prop:=∀ L r,reaG names l = .ok L r -> wtP L <= 1001
def RetRdX (X:Nat -> Prop) (names:List ByteArray) (s:ByteArray) (w:World) (e:Ending) (w':World):Prop:=∃ (a:Option Addr) (n c:Nat) (at_ er:Int),e = .returned (.tuple #[.slice a n c,.int .i64 at_,.int .i64 er]) /\ Below w.heap.size w w' /\
 (errNm names ≠ 0 -> a = none /\ n = 0 /\ at_ = 0 /\ er = errNm names) /\
 (errNm names = 0 -> match readP names s.data.toList with
  | .ok p _=>n = p.length /\ PolX X w' a c p /\ at_ = 0 /\ er = 0 /\ FineP p
  | .bad k e=>a = none /\ n = 0 /\ at_ = ((s.size - k:Nat):Int) /\ er = e /\ e ≠ 0 /\ k <= s.size)
theorem whoL_in (l:List ByteArray) (s:ByteArray):(whoL l s = none) = (inB l s = false):=by
 unfold whoL inB;rw [List.findIdx?_eq_none_iff,List.any_eq_false,eq_iff_iff]
 constructor
 · intro h x hx; simpa using h x hx
 · intro h x hx; simpa using h x hx
theorem fresh_who {names:List ByteArray} (h:errNm names = 0) {k:Nat} {x:ByteArray} (hx:names[k]? = some x):whoL (names.take k) x = none:=by
 rw [whoL_in];by_cases hb:inB (names.take k) x = true
 ·
  by_cases ha:names.all nmB = true
  ·
   have:=errNm_dup ha hx hb;rw [h] at this
   cases this
  ·
   unfold errNm at h;rw [if_neg ha] at h
   cases h
 · simpa using hb
theorem slice_strs_h (a:Option Addr) (m c n:Nat) (hn:n <= c) (w:World) :
  (Instr.slice 24 (.slice a m c) none (some (.int .i64 (n:Int))) none).run Tryz.prog w = .ok (.slice a n c) w:=by
 obtain ⟨d,hd,hz,hsz,hby⟩:=info_parts infoS;have hu:=Tryz.underlying24;have he:Tryz.prog.elem 24 = 9:=by unfold Program.elem; rw [hu]
 have:=run_slice_h (P:=Tryz.prog) (w:=w) 24 a m c (by rw [hu,he]) .i64 n (by omega) (by omega);rw [this,he];simp [sizeOf,typeInfo,hd,hsz,sliced];intro _
 cases a <;> rfl
theorem readX_any (Y:Nat -> Prop) (s:ByteArray) (names:List ByteArray) (a:Option Addr) (c:Nat) (w:World) (h:StrsR w a c names) (hnz:∀ x ∈ names,x.size <= 1048576) (hnl:names.length <= 1000) (hs:s.size <= 281474976710656) (hW:Wok names s.data.toList) (he:ErrW w) (hY:∀ b,Y b -> b < w.heap.size) :
  Calls Tryz.prog 15 #[.string s,.slice a names.length c] w (RetRdX Y names s w):=by
 replace hY:=Hd hY;have CK:=Hd (checkS_any names a c w h hnz (by omega));have HN:=Hd (fun W (hW:Below w.heap.size w W)=>h.ext (xbw hW));have HNZ:=Hd hnz;have HE:=Hd (fun W (hW:Below w.heap.size w W)=>he.below hW);have HWk:=Hd hW;have hcap:=h.1;obtain ⟨te,pe,hec⟩:=id he;have hge:=Hd (World.block_lt_of_cell? w _ hec);have hmm:=@run_makeMap Tryz.prog;clear h hnz he hW hec;obtain ⟨er,her⟩:∃ e,errNm names = e:=⟨_,rfl⟩
 rw [her] at CK;by_cases he0:er = 0
 ·
  subst he0;have hle:min names.length 64 <= names.length:=Nat.min_le_left _ _;have hsl:=fun W=>slice_strs_h a names.length c (min names.length 64) (by omega) W
  have htl:(names.take 64).length = min names.length 64:=by rw [List.length_take,Nat.min_comm]
  obtain ⟨K,hK⟩:∃ K,min names.length 64 = K:=⟨_,rfl⟩
  have hKi:min (names.length:Int) 64 = (K:Int):=by omega
  rw [hK] at hsl htl hle;have hK64:K <= 64:=by omega
  replace hK:=Hd hK; replace htl:=Hd htl;go_enter Tryz.func15,Tryz.ntmps15;go_wp2_with fail;refine CK.out.mono ?_;rintro e w1 ⟨rfl,hb1⟩;go_wp2;refine world_gen (fun W=>OwnV W w1.heap.size 0 [] /\ RdA W (w1.heap.size + 1) s w1.heap.size 0 0 0 /\ Below w.heap.size w W) ⟨(OwnV.made w1).alloc _,bN (by simp),(hb1.alloc hb1.size _).alloc (by have:=hb1.size; simp; omega) _⟩ ?_;rintro w2 ⟨hm2,hr2,hw2⟩;obtain ⟨mb,hmb⟩:∃ q,w1.heap.size = q:=⟨_,rfl⟩
  obtain ⟨g,hg⟩:∃ q,mb + 1 = q:=⟨_,rfl⟩
  have hmw:=Hd (show w.heap.size <= mb by have:=hb1.size; omega);rw [hmb] at hm2 hr2 ⊢;rw [hg] at hr2 ⊢;have hne:=Hd (show mb ≠ g by omega);have hgw:=Hd (show w.heap.size <= g by have:=hmw.out; omega);replace hmb:=Hd hmb; replace hg:=Hd hg;clear hmm hb1 CK hsl hKi
  go_loopg [9,10,27] K (fun gk _ _ i wr=>∃ k:Nat,Hid (k + gk = K) /\ i = .int .i64 k /\ Hid (OwnV wr mb k (names.take k)) /\ Hid (RdA wr g s mb 0 0 0) /\ Below w.heap.size w wr)
  case atStart=>exact ⟨0,by show _ = _; omega,rfl,by show OwnV _ _ _ _; rw [List.take_zero]; exact hm2,hr2,hw2⟩
  case round =>
   clear hm2 hr2 hw2;obtain ⟨k,hk,rfl,hm,hr,hwr⟩:=hrel;by_cases hlt:k < K
   ·
    obtain ⟨x,hx⟩:=get_of_lt (show k < names.length by omega);obtain ⟨b,off,ha,hcx⟩:=(HN.out wr hwr).2.2 k x hx;simp only [Nat.mul_one] at hcx;have hcx2:wr.cell? ⟨b,off + k,none⟩ = some (.string x):=hcx;clear hcx;have hxs:x.size <= maxLen:=by have:=HNZ.out x (List.mem_of_getElem? hx); unfold maxLen; omega
    have hwho:=Hd (fresh_who her hx);have hsu:=Hd (take_more hx);have hlk:=Hd (show ((names.take k).length:Nat) = k by rw [List.length_take]; omega);have hro:=hr.out;have z0:=Blk.cell hro 0; have z1:=Blk.cell hro 1; have z2:=Blk.cell hro 2; have z3:=Blk.cell hro 3; have z4:=Blk.cell hro 4;have hl:=hro.lt;clear hx hro;subst ha;go_wp2_with (at_mapUpdate; go_must (refine mapI_put rfl (.tmp 35) (.tmp 36) (.tmp 37) rfl rfl hm.out (by omega) x hxs rfl hwho.out (by have:=hlk.out; omega) (by have:=hlk.out; show Value.int .i64 (k:Int) = _; rw [this]) ?_); intro w3 hm3 hg3);have hm4:=Hd (show OwnV w3 mb (k + 1) (names.take (k + 1)) by rw [hsu.out]; exact hm3);have hr4:=Hd (show RdA w3 g s mb 0 0 0 from Blk.grown hr.out hg3 (fun e=>by injection e with e; exact hne.out e.symm))
    have hw3:=Hd (show Below w.heap.size w w3 from hwr.grown hg3 hwr.size (fun q hq=>by injection hq with hq; have:=hmw.out; omega));clear hm3 hg3;go_roundg (gk - 1)
    case rel=>exact ⟨k + 1,by have:=hk.out; show _ = _; omega,by go_num,hm4.out,hr4.out,hw3.out⟩
    case measure=>have:=hk.out; omega
   ·
    have hkK:k = K:=by have:=hk.out; omega
    subst hkK;have htk:names.take k = names.take 64:=by
     have hkk:=hK.out;by_cases h64:names.length <= 64
     · rw [List.take_of_length_le (by omega),List.take_of_length_le h64]
     · rw [show k = 64 by omega]
    rw [htk] at hm;have CS:=sum_any (fun b=>b = g \/ Y b) g mb 0 k s names wr (fun b hb=>hb.elim (fun e=>by rw [e]; exact hr.out.lt) fun hb=>ltl (hY.out b hb) hwr.size) (fun b hb=>.inl hb) hr.out hs hm.out hne.out (HE.out wr hwr) (by have:=hge.out; have:=hgw.out; omega);have hWk:=HWk.out;obtain ⟨G,hG⟩:∃ G,reaG names s.data.toList = G:=⟨_,rfl⟩
    have hokM:=fun L r (e:reaG names s.data.toList = .ok L r)=>(reaG_ok e).2
    have hrp:readP names s.data.toList = G.bnd fun l r=>.ok (normP l) r:=by unfold readP; rw [hG]
    unfold Wok at hWk;rw [hG] at CS hWk hokM;have herh:=Hd her;replace CS:=Hd CS; replace hWk:=Hd hWk; replace hokM:=Hd hokM; replace hG:=Hd hG; replace hrp:=Hd hrp;have hwr2:=Hd hwr;clear hr hm htk hwr;go_wp2_with fail;refine CS.out.mono ?_;rintro e w3 ⟨ra,n,rc,rfl,hok,hS,hf⟩;have hw3:=Hd (show Below w.heap.size w w3 from Below.fr hwr2.out hf (fun b hb=>by subst hb; exact hgw.out) hwr2.out.size);clear CS hf hwr2
    cases G with
    | bad kk ee =>
     obtain ⟨p,hp,hkk,h0,hR⟩:=(hS:StE w3 g s mb kk ee)
     have z0:=Blk.cell hR 0; have z1:=Blk.cell hR 1; have z2:=Blk.cell hR 2; have z3:=Blk.cell hR 3; have z4:=Blk.cell hR 4;have hl:=Blk.lt hR;have hz:(ee != 0) = true:=by simpa using h0
     replace h0:=Hd h0;have hwd:=Hd (show Below w.heap.size w w3.drew from hw3.out.drew);clear hR hok;go_wp2;refine wp_region_mix (S:=(fun x=>x = w3.drew)) [(0,.q),(1,.q),(2,.q),(3,.q),(4,.q),(5,.q),(6,.q),(7,.q),(8,.q),(9,.q),(10,.p)] (by kernel_rfl) (by kernel_rfl) (by kernel_rfl) (fun d _ _ _ _ h=>by cases d <;> exact h) (rfl) ?_
     iterate 10 (refine wpMix_q rfl rfl (fun K hK=>?_); apply Exists.intro; refine ⟨fun w' hw'=>?_,?_⟩; (focus (go_simp; try rfl)); go_simp; refine hK _ _ ?_; clear hK K)
     iterate 1 (refine wpMix_p rfl rfl (fun K hK=>?_); apply Exists.intro; refine ⟨fun w'=>?_,?_⟩; (focus (go_simp; try rfl)); go_simp; refine hK _ _ ?_; clear hK K)
     refine wpMix_nil ?_;go_wp2;go_ret3;refine ⟨none,0,0,_,ee,rfl,hwd.out,fun hh=>absurd herh.out hh,fun _=>?_⟩;rw [hrp.out];exact ⟨rfl,rfl,rfl,rfl,h0.out,hkk⟩
    | ok L r =>
     obtain ⟨p,hp,hr2,hR⟩:=(hS:StR w3 g s mb r)
     obtain ⟨rfl,hP,hQ⟩:=hok L r rfl;have hM:=hokM.out L r rfl;have hwt:=hWk.out L r rfl;have hlt:=hR.lt;have CN:=Hd (normS_p (fun b=>b = g \/ Y b) L ra rc w3 (fun b hb=>hb.elim (fun e=>by rw [e]; exact hlt) fun hb=>ltl (hY.out b hb) hw3.out.size) hP hM hQ hwt);have hfi:=ones_fine hM hwt (onesP L) (List.infix_refl _);have hnm:halvesP (onesP L) = normP L:=normP_halves hM;rw [hnm] at CN hfi;replace hfi:=Hd hfi;have z0:=Blk.cell hR 0; have z1:=Blk.cell hR 1; have z2:=Blk.cell hR 2; have z3:=Blk.cell hR 3; have z4:=Blk.cell hR 4;have hl:=Blk.lt hR;clear hR hP hQ hM hwt hnm hok hlt;go_wp2_with fail;refine CN.out.mono ?_;rintro e w4 ⟨a4,c4,rfl,hP4,hb4⟩;have hw4:=Hd (bth hw3.out hb4);replace hP4:=Hd hP4;go_wp2;go_ret3;refine ⟨a4,_,c4,0,0,rfl,hw4.out,fun hh=>absurd herh.out hh,fun _=>?_⟩;rw [hrp.out];exact ⟨rfl,hP4.out.map fun _ r=>r.less fun b hb=>.inr hb,rfl,rfl,hfi.out⟩
 ·
  have hne:(er != 0) = true:=by simpa using he0
  replace he0:=Hd he0; replace her:=Hd her;go_enter Tryz.func15,Tryz.ntmps15;go_wp2_with fail;refine CK.out.mono ?_;rintro e w1 ⟨rfl,hb1⟩;go_wp2;go_ret3;exact ⟨none,0,0,0,er,rfl,hb1,fun _=>⟨rfl,rfl,rfl,her.out.symm⟩,fun h=>absurd (her.out.symm.trans h) he0.out⟩
theorem textF_len (t:Bool × Nat × Nat) (h1:(limbs t.2.1).length <= 2000000) (h2:(limbs t.2.2).length <= 2000000):(textF t).length <= 20000002:=by
 unfold textF;have a1:=textZ_len t.1 t.2.1 h1;have a2:=textN_len t.2.2 h2
 split
 · omega
 · rw [List.length_append,List.length_cons]; omega
theorem textQ_len (q:Rat) {k:Nat} (h:qsz q <= k) (hk:k <= 100000):(textQ q).length <= 20000002:=by
 have h1:=qsz_num q;have h2:=qsz_den q;exact textF_len _ (by show (limbs q.num.natAbs).length <= _; omega) (by show (limbs q.den).length <= _; omega)
theorem termS_any (z:QA) (q:Rat) (m:List Int) (names:List ByteArray) (aa na:Option Addr) (ac nc k:Nat) (w:World) (Hq:QK k w z q) (hk:k <= 1000) (hm:IntsR w aa ac m) (hn:StrsR w na nc names) (hl:m.length <= names.length) (hml:m.length <= 64)
  (hx:∀ x ∈ m,0 <= x /\ x <= 1048576) (hnz:∀ s ∈ names,s.size <= 1048576) (ht:TabW w) :
  Calls Tryz.prog 30 #[.agg #[.bool z.neg,.slice z.a z.n z.c,.slice z.b z.m z.d,.slice aa m.length ac],.slice na names.length nc] w fun e w'=>e = .returned (.string (termB q m names)) /\ Below w.heap.size w w':=by
 have hsz:(textQ (absQ q)).length <= 20000002:=textQ_len _ Hq.abs.2 (by omega);have HT:=Hd hsz;have HQ:=Hd (fun W (hW:Below w.heap.size w W)=>Hq.abs.ext (xbw hW));have HM:=Hd (fun W (hW:Below w.heap.size w W)=>hm.ext (xbw hW));have HN:=Hd hn; have HX:=Hd hx; have HNZ:=Hd hnz; have HML:=Hd hml;have HTB:=Hd (fun W (hW:Below w.heap.size w W)=>ht.below hW);clear Hq hm hn hx hnz ht hsz hml;go_enter Tryz.func30,Tryz.ntmps30;go_wp2;refine world_gen (fun W=>Blk W w.heap.size 57 #[.bool z.neg,.slice z.a z.n z.c,.slice z.b z.m z.d,.slice aa m.length ac] /\ Blk W (w.heap.size + 1) 54 #[.bool false,.slice z.a z.n z.c,.slice z.b z.m z.d] /\ Below w.heap.size w W) (by refine ⟨?_,?_,?_⟩<;>first|((with_reducible repeat first|assumption|(apply bF;focus omega)|apply bS|(apply bN;focus (simp;done))|apply bA|apply bD);all_goals rfl)|go_grown) ?_;rintro w0 ⟨h0,h1,hw0⟩
 obtain ⟨g1,hg1⟩:∃ g,w.heap.size + 1 = g:=⟨_,rfl⟩
 rw [hg1] at h1 ⊢;have hgg:w.heap.size < g1:=by omega
 clear hg1;have gl0:=h0.lt; have gl1:=h1.lt;have k03:=held (h0.cell 3);have k10:=held (h1.cell 0); have k11:=held (h1.cell 1); have k12:=held (h1.cell 2);have s0:Below w0.heap.size w0 w0.drew:=brf.drew;by_cases hm0:m.length = 0
 ·
  have hl0:((m.length:Int) == 0) = true:=by rw [beq_iff_eq]; omega
  have hcf:=Hd (show cofP q m = [ofL (textQ (absQ q))] from if_pos (.inl hm0));clear hm0;refine wp_region_mix (S:=Below w0.heap.size w0) [(0,.q),(1,.q),(2,.q),(3,.q),(4,.q),(5,.q),(6,.l),(7,.t),(8,.p),(9,.p)] (by kernel_rfl) (by kernel_rfl) (by kernel_rfl) (fun d _ _ _ _ h=>by cases d <;> exact h) (s0) ?_
  iterate 5 (refine wpMix_q rfl rfl (fun K hK=>?_); apply Exists.intro; refine ⟨fun w' hw'=>?_,?_⟩; (focus (go_simp; try rfl)); go_simp; refine hK _ _ ?_; clear hK K)
  iterate 4 (refine wpMix_skip rfl rfl (fun K hK=>?_); go_simp; refine hK _ _ ?_; clear hK K)
  iterate 1 (refine wpMix_p rfl rfl (fun K hK=>?_); apply Exists.intro; refine ⟨fun w'=>?_,?_⟩; (focus (go_simp; try rfl)); go_simp; refine hK _ _ ?_; clear hK K)
  refine wpMix_nil ?_;clear k03 k10 k11 k12;replace h0:=h0.below' s0; replace h1:=h1.below' s0; replace hw0:=bth hw0 s0;clear s0 gl0 gl1;obtain ⟨w2,hw2⟩:∃ W,w0.drew = W:=⟨_,rfl⟩
  rw [hw2] at h0 h1 hw0 ⊢;clear hw2;have CT:=text_q z.pos (absQ q) k w2 (HQ.out w2 hw0) (by omega);have x0:=h1.cell 0; have x1:=h1.cell 1; have x2:=h1.cell 2;replace CT:=Hd CT;go_wp2_with fail;refine CT.out.mono ?_;rintro e w3 ⟨rfl,hb3⟩;have hw3:=bth hw0 hb3;replace h0:=h0.below' hb3;clear x0 x1 x2 hb3 CT h1 hw0;have gl0:=h0.lt;have x3:=h0.cell 3;go_wp2_with (at_builtin; go_must (refine append_str rfl (.tmp 23) (.tmp 26) rfl none 0 rfl (Own.nil (B:=w.heap.size)) (ofL (textQ (absQ q))) w3.heap.size 1 rfl (by simp) ([] ++ [ofL (textQ (absQ q))]) rfl (by simp) (by have:=hw3.size; simp; omega) ?_); intro a3 c3 w4 ho3 hg3 hx3; have x4:=((h0.alloc (.cells #[.string (ofL (textQ (absQ q)))] 9)).grown hg3 (by simp [Value.ownBlock])).cell 3);have hw4:=below_append' (hw3.alloc hw3.size _) (show OwnS w.heap.size _ none 0 [] from Own.nil) hg3;replace ho3:=Hd ho3;clear hx3 hg3 h0 x3 x4 gl0;go_wp2
  go_loopg [6,7,8,31] m.length (fun g s6 _ _ s31 wr=>∃ (k2:Nat) (a2:Option Addr) (c2:Nat),Hid (k2 + g = m.length) /\ s31 = .int .i64 k2 /\ s6 = .slice a2 (partsT q m names k2).length c2 /\ OwnS w.heap.size wr a2 c2 (partsT q m names k2) /\ Below w.heap.size w wr)
  case atStart=>exact ⟨0,a3,c3,by show _ = _; omega,rfl,by rw [partsT_zero,hcf.out]; rfl,by rw [partsT_zero,hcf.out]; exact ho3.out,hw4⟩
  case round =>
   obtain ⟨k2,a2,c2,hk2,rfl,rfl,hO,hwr⟩:=hrel;have HO:=Hd hO;clear hO;by_cases hlt:k2 < m.length
   ·
    obtain ⟨x,hx⟩:=get_of_lt hlt;obtain ⟨bm,om,rfl,hcx,hxw⟩:=(HM.out wr hwr).2.2 k2 x hx;simp only [Nat.mul_one] at hcx;obtain ⟨hx0,hx1⟩:=HX.out x (List.mem_of_getElem? hx);have hxi:=inInt_of hxw;have hkn:k2 < names.length:=by omega
    obtain ⟨s,hs⟩:=get_of_lt hkn;obtain ⟨bn,on,rfl,hcn⟩:=HN.out.2.2 k2 s hs;simp only [Nat.mul_one] at hcn;have hcn2:=held (held hcn wr hwr);have hsn:nameA names k2 = s:=by unfold nameA; rw [List.getD_eq_getElem?_getD,hs]; rfl
    have hss:=HNZ.out s (List.mem_of_getElem? hs);have hpl:=partsT_len q m names k2;have hsu:=partsT_succ (q:=q) (names:=names) hx;replace hsn:=Hd hsn; replace hsu:=Hd hsu;have hml:=HML.out;have hgk:=hk2.out;clear hxw hs hx hcn;by_cases h1:x = 1
    ·
     have hp:partsT q m names (k2 + 1) = partsT q m names k2 ++ [s]:=by rw [hsu.out,h1,facP_one,hsn.out]
     replace hp:=Hd hp;have HLE:Hid ((partsT q m names k2 ++ [s]).length <= 16777216):=Hd (by rw [List.length_append]; simp; omega);have h1e:(x == 1) = true:=by simp [h1]
     have hcell:=hcn2;have hcn3:=hcn2 wr brf;clear h1 hgk hpl;go_wp2_with (at_builtin; go_must (refine append_str rfl (.tmp 39) (.tmp 44) rfl a2 c2 rfl (HO.out.alloc _) s wr.heap.size 1 rfl (by simp) (partsT q m names k2 ++ [s]) rfl HLE.out (by have:=hwr.size; simp; omega) ?_); intro a3 c3 w4 ho3 hg3 hx3);have hw4:=below_append' (hwr.alloc hwr.size _) (HO.out.alloc _) hg3;replace ho3:=Hd ho3; replace hw4:=Hd hw4;clear hx3 hg3 HO;go_roundg (gk - 1)
     case rel=>exact ⟨k2 + 1,a3,c3,by have:=hk2.out; show _ = _; omega,by go_num,by rw [hp.out,List.length_append]; rfl,by rw [hp.out]; exact ho3.out,hw4.out⟩
     case measure=>have:=hk2.out; omega
    ·
     have h1e:(x == 1) = false:=by simp [h1]
     by_cases h2:1 < x
     ·
      obtain ⟨xn,rfl⟩:∃ xn:Nat,x = (xn:Int):=⟨x.toNat,by omega⟩
      obtain ⟨y,hy⟩:∃ y,s ++ ⟨#[94]⟩ ++ ofL (textN xn) = y:=⟨_,rfl⟩
      have hp:partsT q m names (k2 + 1) = partsT q m names k2 ++ [y]:=by rw [hsu.out,facP_more h2,hsn.out,Int.toNat_natCast,hy]
      replace hp:=Hd hp;have hsz1:(ofL (textN xn)).size <= 10:=by rw [ofL_size]; have:=digs_1m (xn:Int) hx1; rwa [Int.toNat_natCast] at this
      have hsz3:s.size + 1 <= 1048577:=by omega
      have hsz4:s.size + 1 + (ofL (textN xn)).size <= 1048587:=by omega
      have hn3:¬ 9223372036854775807 < s.size + 1:=by omega
      have hn4:¬ 9223372036854775807 < s.size + 1 + (ofL (textN xn)).size:=by omega
      have HLE:Hid ((partsT q m names k2 ++ [y]).length <= 16777216):=Hd (by rw [List.length_append]; simp; omega);replace hy:=Hd hy;clear h1 hgk hpl hxi;go_wp2;have s0:Below wr.heap.size wr wr.drew:=brf.drew;refine wp_region_mix (S:=Below wr.heap.size wr) [(0,.q),(1,.q),(2,.q),(3,.q),(4,.q),(5,.q),(6,.q),(7,.l),(8,.q),(9,.l),(10,.t),(11,.p)] (by kernel_rfl) (by kernel_rfl) (by kernel_rfl) (fun d _ _ _ _ h=>by cases d <;> exact h) (s0) ?_
      iterate 7 (refine wpMix_q rfl rfl (fun K hK=>?_); apply Exists.intro; refine ⟨fun w' hw'=>?_,?_⟩; (focus (go_simp; try rfl)); go_simp; refine hK _ _ ?_; clear hK K)
      refine wpMix_l rfl rfl (fun K hK=>?_);go_simp;refine (itoaN_any xn _ (HTB.out _ (bth hwr s0)) (by omega)).mono ?_;rintro r u1 ⟨rfl,hb1⟩;dsimp only;refine hK.out _ _ (bth s0 hb1) (fun _=>?_);clear hK K;have s1:=bth s0 hb1;have hw1:=bth hwr s1;have HO1:=Hd (HO.out.below s1)
      iterate 1 (refine wpMix_q rfl rfl (fun K hK=>?_); apply Exists.intro; refine ⟨fun w' hw'=>?_,?_⟩; (focus (go_simp; try rfl)); go_simp; refine hK _ _ ?_; clear hK K)
      refine wpMix_l rfl rfl (fun K hK=>?_);go_simp;refine hK.out _ _ ((s1.alloc s1.size _)) (fun _=>?_);clear hK K;refine wpMix_t rfl rfl (fun K hK=>?_);rw [hy.out];refine wp_append_1 (.tmp 49) (.tmp 58) 24 rfl Tryz.underlying24 infoS rfl (by omega) (by omega) strC_len a2 c2 rfl (HO1.out.alloc _) y (strC_one y) u1.heap.size 1 rfl (strC_cell (by simp)) (partsT q m names k2 ++ [y]) rfl HLE.out (by have:=hw1.size; simp; omega) ?_;intro a3 c3 w4 ho3 hg3 hx3;go_simp;refine hK.out _ _ ?_;clear hK K
      iterate 1 (refine wpMix_p rfl rfl (fun K hK=>?_); apply Exists.intro; refine ⟨fun w'=>?_,?_⟩; (focus (go_simp; try rfl)); go_simp; refine hK _ _ ?_; clear hK K)
      refine wpMix_nil ?_;have hw4:=below_append' (hw1.alloc hw1.size _) (HO1.out.alloc _) hg3;replace ho3:=Hd ho3; replace hw4:=Hd hw4;clear hx3 hg3 HO HO1 hb1 s0 s1 hw1;go_wp2;go_roundg (gk - 1)
      case rel=>exact ⟨k2 + 1,a3,c3,by have:=hk2.out; show _ = _; omega,by go_num,by rw [hp.out,List.length_append]; rfl,by rw [hp.out]; exact ho3.out,hw4.out⟩
      case measure=>have:=hk2.out; omega
     ·
      have hp:partsT q m names (k2 + 1) = partsT q m names k2:=by rw [hsu.out,facP_none (by omega),List.append_nil]
      replace hp:=Hd hp;clear h1 hgk hpl;go_wp2;go_roundg (gk - 1)
      case rel=>exact ⟨k2 + 1,a2,c2,by have:=hk2.out; show _ = _; omega,by go_num,by rw [hp.out],by rw [hp.out]; exact HO.out,hwr⟩
      case measure=>have:=hk2.out; omega
   ·
    have hkm:k2 = m.length:=by have:=hk2.out; omega
    have hsh:=joinB_size (partsT_short (q:=q) (m:=m) (names:=names) (N:=1048576) (T:=20000002) HNZ.out (fun x hx=>(HX.out x hx).2) HT.out k2);have hpl:=partsT_len q m names k2;have hml:=HML.out;have CJ:=join_any (partsT q m names k2) starB a2 c2 wr HO.out.reads1 (by omega) (Nat.le_trans hsh (Nat.le_trans (Nat.mul_le_mul_right _ (show _ <= 65 by omega)) (by omega)));rw [hkm] at CJ ⊢;replace CJ:=Hd CJ;clear hsh hpl hkm;go_wp2_with fail;refine CJ.out.mono ?_;rintro e w5 ⟨rfl,hb5⟩;go_wp2;go_ret;exact ⟨rfl,bth hwr hb5⟩
 ·
  have hl0:((m.length:Int) == 0) = false:=by rw [beq_eq_false_iff_ne]; omega
  have CE:=fun y W h1 h2=>equal_q z.pos y (absQ q) 1 (k + 1) W h1 h2 (by omega)
  obtain ⟨bo,hbo⟩:∃ b,decide (absQ q = 1) = b:=⟨_,rfl⟩
  simp only [hbo] at CE;replace CE:=Hd CE; replace hbo:=Hd hbo;refine wp_region_mix (S:=Below w0.heap.size w0) [(0,.q),(1,.q),(2,.q),(3,.q),(4,.q),(5,.q),(6,.l),(7,.t),(8,.p),(9,.p)] (by kernel_rfl) (by kernel_rfl) (by kernel_rfl) (fun d _ _ _ _ h=>by cases d <;> exact h) (s0) ?_
  iterate 6 (refine wpMix_q rfl rfl (fun K hK=>?_); apply Exists.intro; refine ⟨fun w' hw'=>?_,?_⟩; (focus (go_simp; try rfl)); go_simp; refine hK _ _ ?_; clear hK K)
  refine wpMix_l rfl rfl (fun K hK=>?_);go_simp;refine (unit_q _).mono ?_;rintro r u1 ⟨y,rfl,J,hb1⟩;dsimp only;refine hK.out _ _ (bth s0 hb1) (fun _=>?_);clear hK K;have s1:=bth s0 hb1;refine wpMix_t rfl rfl (fun K hK=>?_);go_simp;refine (CE.out y _ (QK.more (HQ.out _ (bth hw0 s1)) (by omega)) (QK.more J.now (by omega))).mono ?_;rintro r w2 ⟨rfl,hb2⟩;dsimp only;refine hK.out _ _ ?_;clear hK K;have s2:=bth s1 hb2
  iterate 2 (refine wpMix_p rfl rfl (fun K hK=>?_); apply Exists.intro; refine ⟨fun w'=>?_,?_⟩; (focus (go_simp; try rfl)); go_simp; refine hK _ _ ?_; clear hK K)
  refine wpMix_nil ?_;clear k03 k10 k11 k12;replace h0:=h0.below' s2; replace h1:=h1.below' s2; replace hw0:=bth hw0 s2;clear s0 s1 s2 gl0 gl1 hb1 hb2 J;clear CE
  cases bo
  ·
   have hcf:=Hd (show cofP q m = [ofL (textQ (absQ q))] from if_pos (.inr (of_decide_eq_false hbo.out)));clear hbo;have CT:=text_q z.pos (absQ q) k w2 (HQ.out w2 hw0) (by omega);have x0:=h1.cell 0; have x1:=h1.cell 1; have x2:=h1.cell 2;replace CT:=Hd CT;go_wp2_with fail;refine CT.out.mono ?_;rintro e w3 ⟨rfl,hb3⟩;have hw3:=bth hw0 hb3;replace h0:=h0.below' hb3;clear x0 x1 x2 hb3 CT h1 hw0;have gl0:=h0.lt;have x3:=h0.cell 3;go_wp2_with (at_builtin; go_must (refine append_str rfl (.tmp 23) (.tmp 26) rfl none 0 rfl (Own.nil (B:=w.heap.size)) (ofL (textQ (absQ q))) w3.heap.size 1 rfl (by simp) ([] ++ [ofL (textQ (absQ q))]) rfl (by simp) (by have:=hw3.size; simp; omega) ?_); intro a3 c3 w4 ho3 hg3 hx3; have x4:=((h0.alloc (.cells #[.string (ofL (textQ (absQ q)))] 9)).grown hg3 (by simp [Value.ownBlock])).cell 3)
   have hw4:=below_append' (hw3.alloc hw3.size _) (show OwnS w.heap.size _ none 0 [] from Own.nil) hg3;replace ho3:=Hd ho3;clear hx3 hg3 h0 x3 x4 gl0;go_wp2
   go_loopg [6,7,8,31] m.length (fun g s6 _ _ s31 wr=>∃ (k2:Nat) (a2:Option Addr) (c2:Nat),Hid (k2 + g = m.length) /\ s31 = .int .i64 k2 /\ s6 = .slice a2 (partsT q m names k2).length c2 /\ OwnS w.heap.size wr a2 c2 (partsT q m names k2) /\ Below w.heap.size w wr)
   case atStart=>exact ⟨0,a3,c3,by show _ = _; omega,rfl,by rw [partsT_zero,hcf.out]; rfl,by rw [partsT_zero,hcf.out]; exact ho3.out,hw4⟩
   case round =>
    obtain ⟨k2,a2,c2,hk2,rfl,rfl,hO,hwr⟩:=hrel;have HO:=Hd hO;clear hO;by_cases hlt:k2 < m.length
    ·
     obtain ⟨x,hx⟩:=get_of_lt hlt;obtain ⟨bm,om,rfl,hcx,hxw⟩:=(HM.out wr hwr).2.2 k2 x hx;simp only [Nat.mul_one] at hcx;obtain ⟨hx0,hx1⟩:=HX.out x (List.mem_of_getElem? hx);have hxi:=inInt_of hxw;have hkn:k2 < names.length:=by omega
     obtain ⟨s,hs⟩:=get_of_lt hkn;obtain ⟨bn,on,rfl,hcn⟩:=HN.out.2.2 k2 s hs;simp only [Nat.mul_one] at hcn;have hcn2:=held (held hcn wr hwr);have hsn:nameA names k2 = s:=by unfold nameA; rw [List.getD_eq_getElem?_getD,hs]; rfl
     have hss:=HNZ.out s (List.mem_of_getElem? hs);have hpl:=partsT_len q m names k2;have hsu:=partsT_succ (q:=q) (names:=names) hx;replace hsn:=Hd hsn; replace hsu:=Hd hsu;have hml:=HML.out;have hgk:=hk2.out;clear hxw hs hx hcn;by_cases h1:x = 1
     ·
      have hp:partsT q m names (k2 + 1) = partsT q m names k2 ++ [s]:=by rw [hsu.out,h1,facP_one,hsn.out]
      replace hp:=Hd hp;have HLE:Hid ((partsT q m names k2 ++ [s]).length <= 16777216):=Hd (by rw [List.length_append]; simp; omega);have h1e:(x == 1) = true:=by simp [h1]
      have hcell:=hcn2;have hcn3:=hcn2 wr brf;clear h1 hgk hpl;go_wp2_with (at_builtin; go_must (refine append_str rfl (.tmp 39) (.tmp 44) rfl a2 c2 rfl (HO.out.alloc _) s wr.heap.size 1 rfl (by simp) (partsT q m names k2 ++ [s]) rfl HLE.out (by have:=hwr.size; simp; omega) ?_); intro a3 c3 w4 ho3 hg3 hx3);have hw4:=below_append' (hwr.alloc hwr.size _) (HO.out.alloc _) hg3;replace ho3:=Hd ho3; replace hw4:=Hd hw4;clear hx3 hg3 HO;go_roundg (gk - 1)
      case rel=>exact ⟨k2 + 1,a3,c3,by have:=hk2.out; show _ = _; omega,by go_num,by rw [hp.out,List.length_append]; rfl,by rw [hp.out]; exact ho3.out,hw4.out⟩
      case measure=>have:=hk2.out; omega
     ·
      have h1e:(x == 1) = false:=by simp [h1]
      by_cases h2:1 < x
      ·
       obtain ⟨xn,rfl⟩:∃ xn:Nat,x = (xn:Int):=⟨x.toNat,by omega⟩
       obtain ⟨y,hy⟩:∃ y,s ++ ⟨#[94]⟩ ++ ofL (textN xn) = y:=⟨_,rfl⟩
       have hp:partsT q m names (k2 + 1) = partsT q m names k2 ++ [y]:=by rw [hsu.out,facP_more h2,hsn.out,Int.toNat_natCast,hy]
       replace hp:=Hd hp;have hsz1:(ofL (textN xn)).size <= 10:=by rw [ofL_size]; have:=digs_1m (xn:Int) hx1; rwa [Int.toNat_natCast] at this
       have hsz3:s.size + 1 <= 1048577:=by omega
       have hsz4:s.size + 1 + (ofL (textN xn)).size <= 1048587:=by omega
       have hn3:¬ 9223372036854775807 < s.size + 1:=by omega
       have hn4:¬ 9223372036854775807 < s.size + 1 + (ofL (textN xn)).size:=by omega
       have HLE:Hid ((partsT q m names k2 ++ [y]).length <= 16777216):=Hd (by rw [List.length_append]; simp; omega);replace hy:=Hd hy;clear h1 hgk hpl hxi;go_wp2;have s0:Below wr.heap.size wr wr.drew:=brf.drew;refine wp_region_mix (S:=Below wr.heap.size wr) [(0,.q),(1,.q),(2,.q),(3,.q),(4,.q),(5,.q),(6,.q),(7,.l),(8,.q),(9,.l),(10,.t),(11,.p)] (by kernel_rfl) (by kernel_rfl) (by kernel_rfl) (fun d _ _ _ _ h=>by cases d <;> exact h) (s0) ?_
       iterate 7 (refine wpMix_q rfl rfl (fun K hK=>?_); apply Exists.intro; refine ⟨fun w' hw'=>?_,?_⟩; (focus (go_simp; try rfl)); go_simp; refine hK _ _ ?_; clear hK K)
       refine wpMix_l rfl rfl (fun K hK=>?_);go_simp;refine (itoaN_any xn _ (HTB.out _ (bth hwr s0)) (by omega)).mono ?_;rintro r u1 ⟨rfl,hb1⟩;dsimp only;refine hK.out _ _ (bth s0 hb1) (fun _=>?_);clear hK K;have s1:=bth s0 hb1;have hw1:=bth hwr s1;have HO1:=Hd (HO.out.below s1)
       iterate 1 (refine wpMix_q rfl rfl (fun K hK=>?_); apply Exists.intro; refine ⟨fun w' hw'=>?_,?_⟩; (focus (go_simp; try rfl)); go_simp; refine hK _ _ ?_; clear hK K)
       refine wpMix_l rfl rfl (fun K hK=>?_);go_simp;refine hK.out _ _ ((s1.alloc s1.size _)) (fun _=>?_);clear hK K;refine wpMix_t rfl rfl (fun K hK=>?_);rw [hy.out];refine wp_append_1 (.tmp 49) (.tmp 58) 24 rfl Tryz.underlying24 infoS rfl (by omega) (by omega) strC_len a2 c2 rfl (HO1.out.alloc _) y (strC_one y) u1.heap.size 1 rfl (strC_cell (by simp)) (partsT q m names k2 ++ [y]) rfl HLE.out (by have:=hw1.size; simp; omega) ?_;intro a3 c3 w4 ho3 hg3 hx3;go_simp;refine hK.out _ _ ?_;clear hK K
       iterate 1 (refine wpMix_p rfl rfl (fun K hK=>?_); apply Exists.intro; refine ⟨fun w'=>?_,?_⟩; (focus (go_simp; try rfl)); go_simp; refine hK _ _ ?_; clear hK K)
       refine wpMix_nil ?_;have hw4:=below_append' (hw1.alloc hw1.size _) (HO1.out.alloc _) hg3;replace ho3:=Hd ho3; replace hw4:=Hd hw4;clear hx3 hg3 HO HO1 hb1 s0 s1 hw1;go_wp2;go_roundg (gk - 1)
       case rel=>exact ⟨k2 + 1,a3,c3,by have:=hk2.out; show _ = _; omega,by go_num,by rw [hp.out,List.length_append]; rfl,by rw [hp.out]; exact ho3.out,hw4.out⟩
       case measure=>have:=hk2.out; omega
      ·
       have hp:partsT q m names (k2 + 1) = partsT q m names k2:=by rw [hsu.out,facP_none (by omega),List.append_nil]
       replace hp:=Hd hp;clear h1 hgk hpl;go_wp2;go_roundg (gk - 1)
       case rel=>exact ⟨k2 + 1,a2,c2,by have:=hk2.out; show _ = _; omega,by go_num,by rw [hp.out],by rw [hp.out]; exact HO.out,hwr⟩
       case measure=>have:=hk2.out; omega
    ·
     have hkm:k2 = m.length:=by have:=hk2.out; omega
     have hsh:=joinB_size (partsT_short (q:=q) (m:=m) (names:=names) (N:=1048576) (T:=20000002) HNZ.out (fun x hx=>(HX.out x hx).2) HT.out k2);have hpl:=partsT_len q m names k2;have hml:=HML.out;have CJ:=join_any (partsT q m names k2) starB a2 c2 wr HO.out.reads1 (by omega) (Nat.le_trans hsh (Nat.le_trans (Nat.mul_le_mul_right _ (show _ <= 65 by omega)) (by omega)));rw [hkm] at CJ ⊢;replace CJ:=Hd CJ;clear hsh hpl hkm;go_wp2_with fail;refine CJ.out.mono ?_;rintro e w5 ⟨rfl,hb5⟩;go_wp2;go_ret;exact ⟨rfl,bth hwr hb5⟩
  ·
   have hcf:=Hd (show cofP q m = [] from if_neg (by rintro (h | h); exact hm0 h; exact h (of_decide_eq_true hbo.out)));have x3:=h0.cell 3;clear hbo;go_wp2
   go_loopg [6,7,8,31] m.length (fun g s6 _ _ s31 wr=>∃ (k2:Nat) (a2:Option Addr) (c2:Nat),Hid (k2 + g = m.length) /\ s31 = .int .i64 k2 /\ s6 = .slice a2 (partsT q m names k2).length c2 /\ OwnS w.heap.size wr a2 c2 (partsT q m names k2) /\ Below w.heap.size w wr)
   case atStart=>exact ⟨0,none,0,by show _ = _; omega,rfl,by rw [partsT_zero,hcf.out]; rfl,by rw [partsT_zero,hcf.out]; exact Own.nil,hw0⟩
   case round =>
    obtain ⟨k2,a2,c2,hk2,rfl,rfl,hO,hwr⟩:=hrel;have HO:=Hd hO;clear hO;by_cases hlt:k2 < m.length
    ·
     obtain ⟨x,hx⟩:=get_of_lt hlt;obtain ⟨bm,om,rfl,hcx,hxw⟩:=(HM.out wr hwr).2.2 k2 x hx;simp only [Nat.mul_one] at hcx;obtain ⟨hx0,hx1⟩:=HX.out x (List.mem_of_getElem? hx);have hxi:=inInt_of hxw;have hkn:k2 < names.length:=by omega
     obtain ⟨s,hs⟩:=get_of_lt hkn;obtain ⟨bn,on,rfl,hcn⟩:=HN.out.2.2 k2 s hs;simp only [Nat.mul_one] at hcn;have hcn2:=held (held hcn wr hwr);have hsn:nameA names k2 = s:=by unfold nameA; rw [List.getD_eq_getElem?_getD,hs]; rfl
     have hss:=HNZ.out s (List.mem_of_getElem? hs);have hpl:=partsT_len q m names k2;have hsu:=partsT_succ (q:=q) (names:=names) hx;replace hsn:=Hd hsn; replace hsu:=Hd hsu;have hml:=HML.out;have hgk:=hk2.out;clear hxw hs hx hcn;by_cases h1:x = 1
     ·
      have hp:partsT q m names (k2 + 1) = partsT q m names k2 ++ [s]:=by rw [hsu.out,h1,facP_one,hsn.out]
      replace hp:=Hd hp;have HLE:Hid ((partsT q m names k2 ++ [s]).length <= 16777216):=Hd (by rw [List.length_append]; simp; omega);have h1e:(x == 1) = true:=by simp [h1]
      have hcell:=hcn2;have hcn3:=hcn2 wr brf;clear h1 hgk hpl;go_wp2_with (at_builtin; go_must (refine append_str rfl (.tmp 39) (.tmp 44) rfl a2 c2 rfl (HO.out.alloc _) s wr.heap.size 1 rfl (by simp) (partsT q m names k2 ++ [s]) rfl HLE.out (by have:=hwr.size; simp; omega) ?_); intro a3 c3 w4 ho3 hg3 hx3);have hw4:=below_append' (hwr.alloc hwr.size _) (HO.out.alloc _) hg3;replace ho3:=Hd ho3; replace hw4:=Hd hw4;clear hx3 hg3 HO;go_roundg (gk - 1)
      case rel=>exact ⟨k2 + 1,a3,c3,by have:=hk2.out; show _ = _; omega,by go_num,by rw [hp.out,List.length_append]; rfl,by rw [hp.out]; exact ho3.out,hw4.out⟩
      case measure=>have:=hk2.out; omega
     ·
      have h1e:(x == 1) = false:=by simp [h1]
      by_cases h2:1 < x
      ·
       obtain ⟨xn,rfl⟩:∃ xn:Nat,x = (xn:Int):=⟨x.toNat,by omega⟩
       obtain ⟨y,hy⟩:∃ y,s ++ ⟨#[94]⟩ ++ ofL (textN xn) = y:=⟨_,rfl⟩
       have hp:partsT q m names (k2 + 1) = partsT q m names k2 ++ [y]:=by rw [hsu.out,facP_more h2,hsn.out,Int.toNat_natCast,hy]
       replace hp:=Hd hp;have hsz1:(ofL (textN xn)).size <= 10:=by rw [ofL_size]; have:=digs_1m (xn:Int) hx1; rwa [Int.toNat_natCast] at this
       have hsz3:s.size + 1 <= 1048577:=by omega
       have hsz4:s.size + 1 + (ofL (textN xn)).size <= 1048587:=by omega
       have hn3:¬ 9223372036854775807 < s.size + 1:=by omega
       have hn4:¬ 9223372036854775807 < s.size + 1 + (ofL (textN xn)).size:=by omega
       have HLE:Hid ((partsT q m names k2 ++ [y]).length <= 16777216):=Hd (by rw [List.length_append]; simp; omega);replace hy:=Hd hy;clear h1 hgk hpl hxi;go_wp2;have s0:Below wr.heap.size wr wr.drew:=brf.drew;refine wp_region_mix (S:=Below wr.heap.size wr) [(0,.q),(1,.q),(2,.q),(3,.q),(4,.q),(5,.q),(6,.q),(7,.l),(8,.q),(9,.l),(10,.t),(11,.p)] (by kernel_rfl) (by kernel_rfl) (by kernel_rfl) (fun d _ _ _ _ h=>by cases d <;> exact h) (s0) ?_
       iterate 7 (refine wpMix_q rfl rfl (fun K hK=>?_); apply Exists.intro; refine ⟨fun w' hw'=>?_,?_⟩; (focus (go_simp; try rfl)); go_simp; refine hK _ _ ?_; clear hK K)
       refine wpMix_l rfl rfl (fun K hK=>?_);go_simp;refine (itoaN_any xn _ (HTB.out _ (bth hwr s0)) (by omega)).mono ?_;rintro r u1 ⟨rfl,hb1⟩;dsimp only;refine hK.out _ _ (bth s0 hb1) (fun _=>?_);clear hK K;have s1:=bth s0 hb1;have hw1:=bth hwr s1;have HO1:=Hd (HO.out.below s1)
       iterate 1 (refine wpMix_q rfl rfl (fun K hK=>?_); apply Exists.intro; refine ⟨fun w' hw'=>?_,?_⟩; (focus (go_simp; try rfl)); go_simp; refine hK _ _ ?_; clear hK K)
       refine wpMix_l rfl rfl (fun K hK=>?_);go_simp;refine hK.out _ _ ((s1.alloc s1.size _)) (fun _=>?_);clear hK K;refine wpMix_t rfl rfl (fun K hK=>?_);rw [hy.out];refine wp_append_1 (.tmp 49) (.tmp 58) 24 rfl Tryz.underlying24 infoS rfl (by omega) (by omega) strC_len a2 c2 rfl (HO1.out.alloc _) y (strC_one y) u1.heap.size 1 rfl (strC_cell (by simp)) (partsT q m names k2 ++ [y]) rfl HLE.out (by have:=hw1.size; simp; omega) ?_;intro a3 c3 w4 ho3 hg3 hx3;go_simp;refine hK.out _ _ ?_;clear hK K
       iterate 1 (refine wpMix_p rfl rfl (fun K hK=>?_); apply Exists.intro; refine ⟨fun w'=>?_,?_⟩; (focus (go_simp; try rfl)); go_simp; refine hK _ _ ?_; clear hK K)
       refine wpMix_nil ?_;have hw4:=below_append' (hw1.alloc hw1.size _) (HO1.out.alloc _) hg3;replace ho3:=Hd ho3; replace hw4:=Hd hw4;clear hx3 hg3 HO HO1 hb1 s0 s1 hw1;go_wp2;go_roundg (gk - 1)
       case rel=>exact ⟨k2 + 1,a3,c3,by have:=hk2.out; show _ = _; omega,by go_num,by rw [hp.out,List.length_append]; rfl,by rw [hp.out]; exact ho3.out,hw4.out⟩
       case measure=>have:=hk2.out; omega
      ·
       have hp:partsT q m names (k2 + 1) = partsT q m names k2:=by rw [hsu.out,facP_none (by omega),List.append_nil]
       replace hp:=Hd hp;clear h1 hgk hpl;go_wp2;go_roundg (gk - 1)
       case rel=>exact ⟨k2 + 1,a2,c2,by have:=hk2.out; show _ = _; omega,by go_num,by rw [hp.out],by rw [hp.out]; exact HO.out,hwr⟩
       case measure=>have:=hk2.out; omega
    ·
     have hkm:k2 = m.length:=by have:=hk2.out; omega
     have hsh:=joinB_size (partsT_short (q:=q) (m:=m) (names:=names) (N:=1048576) (T:=20000002) HNZ.out (fun x hx=>(HX.out x hx).2) HT.out k2);have hpl:=partsT_len q m names k2;have hml:=HML.out;have CJ:=join_any (partsT q m names k2) starB a2 c2 wr HO.out.reads1 (by omega) (Nat.le_trans hsh (Nat.le_trans (Nat.mul_le_mul_right _ (show _ <= 65 by omega)) (by omega)));rw [hkm] at CJ ⊢;replace CJ:=Hd CJ;clear hsh hpl hkm;go_wp2_with fail;refine CJ.out.mono ?_;rintro e w5 ⟨rfl,hb5⟩;go_wp2;go_ret;exact ⟨rfl,bth hwr hb5⟩
end Go.Proofs.YtkjnkpkagcboeaaGreatDoor
