/- A statement whose order is open, where two operations that are no reads may come up in either order. No function of the program in sight. -/
import Derived.Test.YtmdlbpibipnapaaGreatRd1
import Derived.OrdersHeld
import Derived.Deep.RegionWith
import Derived.Test.YtmdlbpibipnapaaGreatRd4
set_option linter.all false
set_option maxRecDepth 100000
set_option maxHeartbeats 4000000
namespace Go.Proofs.YtmdlbpibipnapaaGreat
open Go.RowKit
section
variable {P : Program} {ops : Array Oper} {Q : Exit -> Act -> World -> Prop} {md : Region.Mode} {S : World -> Prop}
def qds (md:Region.Mode) (ops:Array Oper) (listed:Array Bool):Prop :=
 ∀ k o,ops[k]? = some o->listed.getD k false=true->∀ e∈o.after,Region.binds md e=true->listed.getD e.on false=true
theorem qds.set_ {listed:Array Bool} {j:Nat} (h:qds md ops listed) (hj:j∈Region.ready md ops listed):qds md ops (listed.setIfInBounds j true):=by
 intro k o ho hk e he hb;obtain ⟨_,oj,hoj,hall⟩:=mem_ready.1 hj;by_cases hkj:j=k
 ·
  subst hkj;rw [hoj] at ho;injection ho with ho
  subst ho;exact getD_set_true (hall e he hb)
 ·
  rw [getD_set_ne false hkj] at hk;exact getD_set_true (h k o ho hk e he hb)
def dep (md:Region.Mode) (ops:Array Oper):Nat->Nat->Nat->Bool
 | 0,_,_=>false
 | n+1,j,i=>match ops[j]? with
  | none=>false
  | some o=>o.after.any fun e=>Region.binds md e&&(e.on==i||dep md ops n e.on i)
theorem qld {listed:Array Bool} (h:qds md ops listed):∀ (n j i:Nat) (oj:Oper),ops[j]? = some oj->dep md ops n j i=true ->
  (∀ e∈oj.after,Region.binds md e=true->listed.getD e.on false=true)->listed.getD i false=true
 | 0,_,_,_,_,hd,_=>by simp [dep] at hd
 | n+1,j,i,oj,hoj,hd,hall=>by
  simp only [dep,hoj] at hd;obtain ⟨e,he,hb⟩:=Array.any_eq_true'.1 hd;simp only [Bool.and_eq_true,Bool.or_eq_true,beq_iff_eq] at hb;rcases hb.2 with h1 | h1
  · rw [<- h1];exact hall e he hb.1
  ·
   have hl:=hall e he hb.1
   cases ho:ops[e.on]? with
   | none =>
    cases n with
    | zero=>simp [dep] at h1
    | succ n=>simp [dep,ho] at h1
   | some oe=>exact qld h n e.on i oe ho h1 (fun e' he' hb'=>h e.on oe ho hl e' he' hb')
def qbp (P:Program) (md:Region.Mode) (ops:Array Oper) (Q:Exit->Act->World->Prop) (S:World->Prop) (tl:Nat->Bool):Nat->Array Bool->Act->World->Prop
 | 0,listed,a,w=>Region.ready md ops listed=[]/\Q .normal a w
 | fuel+1,listed,a,w =>
  (Region.ready md ops listed=[]->Q .normal a w) /\
  ∀ i∈Region.ready md ops listed,wpOp P ops Q i (fun a' w'=>(tl i=false->S w')/\qbp P md ops Q S tl fuel (listed.setIfInBounds i true) a' w') a w
theorem qf2 {tl:Nat->Bool}:∀ (fuel:Nat) (listed:Array Bool) (a:Act) (w:World),qbp P md ops Q S tl fuel listed a w->wpAny P md ops Q fuel listed a w
 | 0,_,_,_,h=>h
 | fuel+1,_,_,_,h=>⟨h.1,fun i hi=>wpOp_mono (fun a' w' h'=>qf2 fuel _ a' w' h'.2) (h.2 i hi)⟩
theorem zz10 {P:Prop} (h:P:=by
 rcases Nat.lt_or_ge i listed.size with h' | h'
 · simp [h'] at hiun ⊢;exact hiun
 · simp [Array.getElem?_eq_none h']
 ):P:=h
theorem qc7 {tl:Nat->Bool} {i:Nat} {oi:Oper} {v:Value} (hi:ops[i]? = some oi) (hti:tl i=false) (hsel:∀ (j:Nat) (o:Oper) cs b,ops[j]? = some o->o.op≠.select cs b)
  (hQ:∀ c a w,Q (.panic c) (a.put oi.dst v) w->Q (.panic c) a w) :
  ∀ (fuel:Nat) (listed:Array Bool) (a:Act) (w:World),
   (∀ j oj,ops[j]? = some oj->j≠i->listed.getD j true=false->(∀ e∈oj.after,Region.binds md e=true->e.on≠i)->oi.apart ops oj=true) ->
   (∀ j,tl j=true->dep md ops ops.size j i=true)->qds md ops listed ->
   i∈Region.ready md ops listed->YieldsIf P ops S oi v a->S w ->
   qbp P md ops Q S tl fuel (listed.setIfInBounds i true) (a.put oi.dst v) w->qbp P md ops Q S tl (fuel+1) listed a w:=by
 intro fuel
 induction fuel with
 | zero =>
  intro listed a w _ _ _ hr hy hS H;refine ⟨fun h=>(by rw [h] at hr;cases hr),fun j hj=>?_⟩;by_cases hji:j=i
  · subst hji;exact hy.wpOp hi hS ⟨fun _=>hS,H⟩
  ·
   have:=ready_mono hj hji;rw [H.1] at this
   cases this
 | succ fuel ih =>
  intro listed a w hfree htl hcl hr hy hS H;refine ⟨fun h=>(by rw [h] at hr;cases hr),fun j hj=>?_⟩;by_cases hji:j=i
  · subst hji;exact hy.wpOp hi hS ⟨fun _=>hS,H⟩
  ·
   have h1:=H.2 j (ready_mono hj hji);obtain ⟨hjun,oj,hoj,hall⟩:=mem_ready.1 hj;have hiun:=(mem_ready.1 hr).1;have hnl:listed.getD i false=false:=by
    exact zz10
   have htj:tl j=false:=by
    cases htj:tl j with
    | false=>rfl
    | true =>
     have:=qld hcl ops.size j i oj hoj (htl j htj) hall;rw [hnl] at this;cases this
   have hnot:∀ e∈oj.after,Region.binds md e=true->e.on≠i:=fun e he hb heq=>by
    have h1:=hall e he hb;rw [heq,hnl] at h1;cases h1
   have h2:=wpOp_putIf hoj (hfree j oj hoj hji hjun hnot) (fun cs b=>hsel i oi cs b hi) (fun cs b=>hsel j oj cs b hoj) hQ hy h1;have hfree':∀ k ok,ops[k]? = some ok->k≠i->(listed.setIfInBounds j true).getD k true=false ->
     (∀ e∈ok.after,Region.binds md e=true->e.on≠i)->oi.apart ops ok=true:=fun k ok hk hki hun hno=>by
    refine hfree k ok hk hki ?_ hno;by_cases hjk:j=k
    · subst hjk;exact hjun
    · rw [getD_set_ne true hjk] at hun;exact hun
   refine wpOp_mono (fun a' w' h3=>⟨h3.2.1,ih (listed.setIfInBounds j true) a' w' hfree' htl (hcl.set_ hj) (ready_mono hr (Ne.symm hji)) h3.1 (h3.2.1 htj) ?_⟩) h2;rw [Array.setIfInBounds_comm _ _ hji];exact h3.2.2
theorem qdp {tl:Nat->Bool} {i:Nat} {oi:Oper} {v:Value} (hi:ops[i]? = some oi) (hti:tl i=true) (hsel:∀ (j:Nat) (o:Oper) cs b,ops[j]? = some o->o.op≠.select cs b)
  (hQ:∀ c a w,Q (.panic c) (a.put oi.dst v) w->Q (.panic c) a w) :
  ∀ (fuel:Nat) (listed:Array Bool) (a:Act) (w:World),
   (∀ j oj,ops[j]? = some oj->j≠i->listed.getD j true=false->(∀ e∈oj.after,Region.binds md e=true->e.on≠i)->oi.apart ops oj=true) ->
   i∈Region.ready md ops listed->Yields P ops oi v a ->
   qbp P md ops Q S tl fuel (listed.setIfInBounds i true) (a.put oi.dst v) w->qbp P md ops Q S tl (fuel+1) listed a w:=by
 intro fuel
 induction fuel with
 | zero =>
  intro listed a w _ hr hy H;refine ⟨fun h=>(by rw [h] at hr;cases hr),fun j hj=>?_⟩;by_cases hji:j=i
  · subst hji;exact hy.wpOp hi ⟨(fun h=>by rw [hti] at h;cases h),H⟩
  ·
   have:=ready_mono hj hji;rw [H.1] at this
   cases this
 | succ fuel ih =>
  intro listed a w hfree hr hy H;refine ⟨fun h=>(by rw [h] at hr;cases hr),fun j hj=>?_⟩;by_cases hji:j=i
  · subst hji;exact hy.wpOp hi ⟨(fun h=>by rw [hti] at h;cases h),H⟩
  ·
   have h1:=H.2 j (ready_mono hj hji);obtain ⟨hjun,oj,hoj,hall⟩:=mem_ready.1 hj;have hiun:=(mem_ready.1 hr).1;have hnl:listed.getD i false=false:=by
    exact zz10
   have hnot:∀ e∈oj.after,Region.binds md e=true->e.on≠i:=fun e he hb heq=>by
    have h1:=hall e he hb;rw [heq,hnl] at h1;cases h1
   have h2:=wpOp_put hoj (hfree j oj hoj hji hjun hnot) (fun cs b=>hsel i oi cs b hi) (fun cs b=>hsel j oj cs b hoj) hQ hy h1;have hfree':∀ k ok,ops[k]? = some ok->k≠i->(listed.setIfInBounds j true).getD k true=false ->
     (∀ e∈ok.after,Region.binds md e=true->e.on≠i)->oi.apart ops ok=true:=fun k ok hk hki hun hno=>by
    refine hfree k ok hk hki ?_ hno;by_cases hjk:j=k
    · subst hjk;exact hjun
    · rw [getD_set_ne true hjk] at hun;exact hun
   refine wpOp_mono (fun a' w' h3=>⟨h3.2.1,ih (listed.setIfInBounds j true) a' w' hfree' (ready_mono hr (Ne.symm hji)) h3.1 ?_⟩) h2;rw [Array.setIfInBounds_comm _ _ hji];exact h3.2.2
inductive Mode4 where
 | q | l | t | p
 deriving DecidableEq
def Mode4.tail:Mode4->Bool
 | .t=>true
 | .p=>true
 | _=>false
def qfw (l:List (Nat × Mode4)) (i:Nat):Bool:=l.any fun x=>x.1==i&&x.2.tail
def mixB (md:Region.Mode) (ops:Array Oper):List (Nat × Mode4)->Array Bool->Bool
 | [],listed=>(Region.ready md ops listed).isEmpty
 | (i,.q) :: r,listed=>Region.free md ops listed i&&((Region.ready md ops listed).contains i&&mixB md ops r (listed.setIfInBounds i true))
 | (i,.p) :: r,listed=>Region.free md ops listed i&&((Region.ready md ops listed).contains i&&mixB md ops r (listed.setIfInBounds i true))
 | (i,_) :: r,listed=>(Region.ready md ops listed==[i])&&mixB md ops r (listed.setIfInBounds i true)
def qhv (md:Region.Mode) (ops:Array Oper) (l:List (Nat × Mode4)):Bool :=
 decide (l.map (·.1)).Nodup&&l.all (fun x=>match x.2 with
  | .q=>l.all fun y=>!y.2.tail||dep md ops ops.size y.1 x.1
  | _=>true)
def lateB:List (Nat × Mode4)->Bool->Bool
 | [],_=>true
 | (_,m) :: r,late=>(!(late&&(m==.q||m==.l)))&&lateB r (late||m.tail)
def opAt (ops:Array Oper) (i:Nat):Option Oper:=(ops.toList.drop i).head?
theorem qe8 (ops:Array Oper) (i:Nat):opAt ops i=ops[i]?:=by simp [opAt]
def wpMix (P:Program) (ops:Array Oper) (Q:Exit->Act->World->Prop) (S:World->Prop):List (Nat × Mode4)->Act->World->Prop
 | [],a,w=>Q .normal a w
 | (i,m) :: r,a,w=>match opAt ops i with
  | none=>False
  | some o=>if Region.wanted o (yielded ops a.tmps)=true then
    (match m with
     | .q=>∃ v,(∀ w',S w'->(execOp a.eval o).run P w'=.ok (.value v) w')/\wpMix P ops Q S r (a.put o.dst v) w
     | .p=>∃ v,(∀ w',(execOp a.eval o).run P w'=.ok (.value v) w')/\wpMix P ops Q S r (a.put o.dst v) w
     | .l=>o.wp P a w (fun a' w'=>S w'/\wpMix P ops Q S r a' w') Q
     | .t=>o.wp P a w (fun a' w'=>wpMix P ops Q S r a' w') Q)
   else wpMix P ops Q S r (a.put o.dst undef) w
theorem qua {l:List (Nat × Mode4)}:∀ {i:Nat} {m m':Mode4},(l.map (·.1)).Nodup->(i,m)∈l->(i,m')∈l->m=m':=by
 induction l with
 | nil=>intro i m m' _ h;cases h
 | cons y l ih =>
  intro i m m' hn h h';simp only [List.map_cons,List.nodup_cons] at hn;rcases List.mem_cons.1 h with h1 | h1 <;> rcases List.mem_cons.1 h' with h2 | h2
  · rw [<- h1] at h2;injection h2 with _ e;exact e.symm
  · subst h1;exact absurd (List.mem_map.2 ⟨_,h2,rfl⟩) hn.1
  · subst h2;exact absurd (List.mem_map.2 ⟨_,h1,rfl⟩) hn.1
  · exact ih hn.2 h1 h2
theorem qtu {l:List (Nat × Mode4)} {i:Nat} {m:Mode4} (hn:(l.map (·.1)).Nodup) (h:(i,m)∈l):qfw l i=m.tail:=by
 unfold qfw;rw [Bool.eq_iff_iff,List.any_eq_true]
 constructor
 ·
  rintro ⟨⟨j,m'⟩,hj,hb⟩;simp only [Bool.and_eq_true,beq_iff_eq] at hb;obtain ⟨rfl,hb⟩:=hb;have:m'=m:=qua hn hj h;rw [<- this];exact hb
 ·
  intro hb;exact ⟨(i,m),h,by simp [hb]⟩
theorem qqw {l:List (Nat × Mode4)} {j:Nat} (h:qfw l j=true):∃ m,(j,m)∈l/\m.tail=true:=by
 unfold qfw at h;obtain ⟨⟨i,m⟩,hm,hb⟩:=List.any_eq_true.1 h;simp only [Bool.and_eq_true,beq_iff_eq] at hb;obtain ⟨rfl,hb⟩:=hb;exact ⟨m,hm,hb⟩
theorem qcz (hs:Region.noSelect ops=true) (hQ:∀ d v c a w,Q (.panic c) (a.put d v) w->Q (.panic c) a w) (L:List (Nat × Mode4)) (hL:qhv md ops L=true) :
  ∀ (l:List (Nat × Mode4)) (listed:Array Bool) (a:Act) (w:World) (late:Bool),(∀ x∈l,x∈L)->mixB md ops l listed=true->lateB l late=true->qds md ops listed->(late=false->S w)->wpMix P ops Q S l a w ->
   qbp P md ops Q S (qfw L) l.length listed a w
 | [],listed,a,w,_,_,hB,_,_,_,h=>by
  unfold qbp;exact ⟨by simpa [mixB] using hB,h⟩
 | (i,m) :: r,listed,a,w,late,hsub,hB,hlate,hcl,hS,h=>by
  have hL':=hL;simp only [qhv,Bool.and_eq_true,decide_eq_true_eq,List.all_eq_true] at hL';have hti:=qtu hL'.1 (hsub (i,m) (by simp));have hsub':∀ x∈r,x∈L:=fun x hx=>hsub x (by simp [hx])
  simp only [lateB,Bool.and_eq_true] at hlate;unfold wpMix at h;rw [qe8] at h
  cases ho:ops[i]? with
  | none=>rw [ho] at h;exact h.elim
  | some o =>
   rw [ho] at h;simp only at h
   cases m with
   | q =>
    simp only [mixB,Bool.and_eq_true] at hB;obtain ⟨h1,h2,h3⟩:=hB;have hnl:late=false:=by
     cases late with
     | false=>rfl
     | true=>simp at hlate
    have h2':i∈Region.ready md ops listed:=by simpa using h2
    have htl:∀ j,qfw L j=true->dep md ops ops.size j i=true:=fun j hj=>by
     obtain ⟨mj,hmj,htj⟩:=qqw hj;have:=hL'.2 (i,.q) (hsub _ (by simp));simp only [List.all_eq_true] at this;have:=this (j,mj) hmj;simpa [htj] using this
    have hlr:lateB r late=true:=by simpa [Mode4.tail] using hlate.2
    by_cases hw:Region.wanted o (yielded ops a.tmps)=true
    ·
     rw [if_pos hw] at h;obtain ⟨v,hv,hn⟩:=h;exact qc7 ho hti (Region.noSelect_spec hs) (fun c a w=>hQ _ _ c a w) _ _ _ _ (Region.free_spec ho h1) htl hcl h2' (.inl ⟨hw,hv⟩) (hS hnl) (qcz hs hQ L hL r _ _ _ late hsub' h3 hlr (hcl.set_ h2') hS hn)
    ·
     rw [if_neg hw] at h;exact qc7 ho hti (Region.noSelect_spec hs) (fun c a w=>hQ _ _ c a w) _ _ _ _ (Region.free_spec ho h1) htl hcl h2' (.inr ⟨by simpa using hw,rfl⟩) (hS hnl) (qcz hs hQ L hL r _ _ _ late hsub' h3 hlr (hcl.set_ h2') hS h)
   | p =>
    simp only [mixB,Bool.and_eq_true] at hB;obtain ⟨h1,h2,h3⟩:=hB;have h2':i∈Region.ready md ops listed:=by simpa using h2
    have hlr:lateB r true=true:=by simpa [Mode4.tail] using hlate.2
    by_cases hw:Region.wanted o (yielded ops a.tmps)=true
    ·
     rw [if_pos hw] at h;obtain ⟨v,hv,hn⟩:=h;exact qdp ho hti (Region.noSelect_spec hs) (fun c a w=>hQ _ _ c a w) _ _ _ _ (Region.free_spec ho h1) h2' (.inl ⟨hw,hv⟩) (qcz hs hQ L hL r _ _ _ true hsub' h3 hlr (hcl.set_ h2') (fun h=>by cases h) hn)
    ·
     rw [if_neg hw] at h;exact qdp ho hti (Region.noSelect_spec hs) (fun c a w=>hQ _ _ c a w) _ _ _ _ (Region.free_spec ho h1) h2' (.inr ⟨by simpa using hw,rfl⟩) (qcz hs hQ L hL r _ _ _ true hsub' h3 hlr (hcl.set_ h2') (fun h=>by cases h) h)
   | l =>
    simp only [mixB,Bool.and_eq_true,beq_iff_eq] at hB;obtain ⟨h1,h3⟩:=hB;have h2':i∈Region.ready md ops listed:=by rw [h1];simp
    have hlr:lateB r late=true:=by simpa [Mode4.tail] using hlate.2
    unfold qbp;refine ⟨(fun h0=>by rw [h1] at h0;cases h0),fun j hj=>?_⟩;obtain rfl:j=i:=by rw [h1] at hj;simpa using hj
    unfold wpOp;rw [ho];simp only;by_cases hw:Region.wanted o (yielded ops a.tmps)=true
    ·
     rw [if_pos hw] at h ⊢;exact .inl (Oper.wp_mono (fun a' w' hh=>⟨fun _=>hh.1,qcz hs hQ L hL r _ a' w' late hsub' h3 hlr (hcl.set_ h2') (fun _=>hh.1) hh.2⟩) h)
    ·
     rw [if_neg hw] at h ⊢
     cases late with
     | false=>exact ⟨fun _=>hS rfl,qcz hs hQ L hL r _ _ _ false hsub' h3 hlr (hcl.set_ h2') hS h⟩
     | true=>simp at hlate
   | t =>
    simp only [mixB,Bool.and_eq_true,beq_iff_eq] at hB;obtain ⟨h1,h3⟩:=hB;have h2':i∈Region.ready md ops listed:=by rw [h1];simp
    have hlr:lateB r true=true:=by simpa [Mode4.tail] using hlate.2
    unfold qbp;refine ⟨(fun h0=>by rw [h1] at h0;cases h0),fun j hj=>?_⟩;obtain rfl:j=i:=by rw [h1] at hj;simpa using hj
    unfold wpOp;rw [ho];simp only;have hno:qfw L j=false->False:=fun h=>by rw [hti] at h;cases h
    by_cases hw:Region.wanted o (yielded ops a.tmps)=true
    ·
     rw [if_pos hw] at h ⊢;exact .inl (Oper.wp_mono (fun a' w' hh=>⟨fun h=>(hno h).elim,qcz hs hQ L hL r _ a' w' true hsub' h3 hlr (hcl.set_ h2') (fun h=>by cases h) hh⟩) h)
    ·
     rw [if_neg hw] at h ⊢;exact ⟨fun h=>(hno h).elim,qcz hs hQ L hL r _ _ _ true hsub' h3 hlr (hcl.set_ h2') (fun h=>by cases h) h⟩
-- a goal with this head is never laid open by the way
attribute [irreducible] wpMix
theorem qim {id:Nat} {a:Act} {w:World} (l:List (Nat × Mode4)) (hm:P.follows .mixedOrders=true) (hs:Region.noSelect ops=true)
  (hB:(l.length==ops.size&&(qhv .any ops l&&(lateB l false&&mixB .any ops l (Array.replicate ops.size false))))=true)
  (hQ:∀ d v c a w,Q (.panic c) (a.put d v) w->Q (.panic c) a w) (hS:S w.drew) (h:wpMix P ops Q S l a w.drew):(Code.region id ops true).wp P Q a w:=by
 simp only [Bool.and_eq_true,beq_iff_eq] at hB;refine wp_region_any hm (qf2 (S:=S) (tl:=qfw l) _ _ _ _ ?_);have hc:qds .any ops (Array.replicate ops.size false):=fun k o _ hk=>by
  exfalso;rcases Nat.lt_or_ge k ops.size with h' | h'
  · simp [h'] at hk
  · simp [Nat.not_lt.2 h'] at hk
 have:=qcz (md:=.any) hs hQ l hB.2.1 l _ a w.drew false (fun _ h=>h) hB.2.2.2 hB.2.2.1 hc (fun _=>hS) h
 rwa [hB.1] at this
theorem qad {a:Act} {w:World} (h:Q .normal a w):wpMix P ops Q S [] a w:=by unfold wpMix;exact h
theorem qtv {i:Nat} {m:Mode4} {r:List (Nat × Mode4)} {o:Oper} {a:Act} {w:World} (ho:opAt ops i=some o) (hw:Region.wanted o (yielded ops a.tmps)=false)
  (h:∀ K:Act->World->Prop,(∀ a' w',wpMix P ops Q S r a' w'->K a' w')->K (a.put o.dst undef) w):wpMix P ops Q S ((i,m) :: r) a w:=by
 unfold wpMix;rw [ho];simp only;rw [if_neg (by simp [hw])];exact h _ (fun _ _ h=>h)
theorem qaf {i:Nat} {r:List (Nat × Mode4)} {o:Oper} {a:Act} {w:World} (ho:opAt ops i=some o) (hw:Region.wanted o (yielded ops a.tmps)=true)
  (h:∀ K:Act->World->Prop,(∀ a' w',wpMix P ops Q S r a' w'->K a' w')->∃ v,(∀ w',S w'->(execOp a.eval o).run P w'=.ok (.value v) w')/\K (a.put o.dst v) w) :
  wpMix P ops Q S ((i,.q) :: r) a w:=by
 unfold wpMix;rw [ho];simp only;rw [if_pos hw];exact h _ (fun _ _ h=>h)
theorem qaj {i:Nat} {r:List (Nat × Mode4)} {o:Oper} {a:Act} {w:World} (ho:opAt ops i=some o) (hw:Region.wanted o (yielded ops a.tmps)=true)
  (h:∀ K:Act->World->Prop,(∀ a' w',wpMix P ops Q S r a' w'->K a' w')->∃ v,(∀ w',(execOp a.eval o).run P w'=.ok (.value v) w')/\K (a.put o.dst v) w) :
  wpMix P ops Q S ((i,.p) :: r) a w:=by
 unfold wpMix;rw [ho];simp only;rw [if_pos hw];exact h _ (fun _ _ h=>h)
theorem qz3 {i:Nat} {r:List (Nat × Mode4)} {o:Oper} {a:Act} {w:World} (ho:opAt ops i=some o) (hw:Region.wanted o (yielded ops a.tmps)=true)
  (h:∀ K:Act->World->Prop,Hid (∀ a' w',S w'->(S w'->wpMix P ops Q S r a' w')->K a' w')->o.wp P a w K Q) :
  wpMix P ops Q S ((i,.l) :: r) a w:=by
 unfold wpMix;rw [ho];simp only;rw [if_pos hw];exact h _ (fun _ _ h1 h2=>⟨h1,h2 h1⟩)
theorem qz9 {i:Nat} {r:List (Nat × Mode4)} {o:Oper} {a:Act} {w:World} (ho:opAt ops i=some o) (hw:Region.wanted o (yielded ops a.tmps)=true)
  (h:∀ K:Act->World->Prop,Hid (∀ a' w',wpMix P ops Q S r a' w'->K a' w')->o.wp P a w K Q) :
  wpMix P ops Q S ((i,.t) :: r) a w:=by
 unfold wpMix;rw [ho];simp only;rw [if_pos hw];exact h _ (fun _ _ h=>h)
end
theorem xq {α:Sort _} {p q:α->Prop} {v:α} (h2:q v) (h1:p v:=by (intro w' hw';go_simp;try rfl)):∃ v,p v/\q v:=⟨v,h1,h2⟩
theorem xp {α:Sort _} {p q:α->Prop} {v:α} (h2:q v) (h1:p v:=by (intro w';go_simp;try rfl)):∃ v,p v/\q v:=⟨v,h1,h2⟩
section
variable {P : Program} {ops : Array Oper} {Q : Exit -> Act -> World -> Prop} {S : World -> Prop} {i : Nat} {r : List (Nat × Mode4)} {o : Oper} {a : Act} {w : World}
theorem vl (h:∀ K:Act->World->Prop,Hid (∀ a' w',S w'->(S w'->wpMix P ops Q S r a' w')->K a' w')->o.wp P a w K Q) (ho:opAt ops i=some o:=by rfl) (hw:Region.wanted o (yielded ops a.tmps)=true:=by rfl):wpMix P ops Q S ((i,.l) :: r) a w:=qz3 ho hw h
theorem vt (h:∀ K:Act->World->Prop,Hid (∀ a' w',wpMix P ops Q S r a' w'->K a' w')->o.wp P a w K Q) (ho:opAt ops i=some o:=by rfl) (hw:Region.wanted o (yielded ops a.tmps)=true:=by rfl):wpMix P ops Q S ((i,.t) :: r) a w:=qz9 ho hw h
end
section
variable {P : Program} {ops : Array Oper} {Q : Exit -> Act -> World -> Prop} {S : World -> Prop}
theorem wrx {id:Nat} {a:Act} {w:World} (l:List (Nat × Mode4)) (hS:S w.drew) (h:wpMix P ops Q S l a w.drew) (hm:P.follows .mixedOrders=true:=by kernel_rfl) (hs:Region.noSelect ops=true:=by kernel_rfl)
 (hB:(l.length==ops.size&&(qhv .any ops l&&(lateB l false&&mixB .any ops l (Array.replicate ops.size false))))=true:=by kernel_rfl) (hQ:∀ d v c a w,Q (.panic c) (a.put d v) w->Q (.panic c) a w:=by (intro d _ _ _ _ h;cases d <;> exact h)):(Code.region id ops true).wp P Q a w:=qim l hm hs hB hQ hS h
end
theorem qsb (l:List Int) (d:Int) (a:Option Addr) (c:Nat) (w:World) (h:NatR w a c l) (hn:val l=0) (hd:-1048576<=d/\d<=1048576) :
  Calls Tryz.prog 84 #[.slice a l.length c,.int .i64 d] w fun e w'=>e=.returned (.slice none 0 0)/\w=w':=by
 have CT:=qa4 l a c w h;rw [hn,qao] at CT;replace CT:=Hd CT;obtain ⟨hd1,hd2⟩:=hd;clear h hn;go_enter Tryz.func84,Tryz.ntmps84;go_wp2_with fail;refine CT.out.mono ?_;rintro e w1 ⟨rfl,rfl⟩;go_wp2;go_ret;exact ⟨rfl,rfl⟩
theorem qui (l:List Int) (n s:Nat) (a:Option Addr) (c:Nat) (w:World) (h:NatR w a c l) (hn:val l=n) (h0:0<n) (hl:l.length<=10000000) (hs0:0<s) (hs:s<=1048576) :
  Calls Tryz.prog 84 #[.slice a l.length c,.int .i64 (-(s:Int))] w (RetN (limbs (n / 2 ^ s)) w):=by
 have CT:=qa4 l a c w h;have hT:=h.trim;have hlt:=qah h.u16;rw [hn] at CT hT hlt;have CR:=qwa (limbs n) n s a c w hT (qac n) oo oo;have hTp:=qat.2 h0;revert CT CR hTp;generalize (limbs n).length=T;intro CT CR hTp;replace CT:=Hd CT;replace CR:=Hd CR;have hne:((T:Int)==0)=false:=by rw [beq_eq_false_iff_ne];omega
 have hneg:- -(s:Int)=(s:Int):=oo
 clear h hn hlt hT h0;go_enter Tryz.func84,Tryz.ntmps84;go_wp2_with fail;refine CT.out.mono ?_;rintro e w1 ⟨rfl,rfl⟩;go_wp2_with fail;refine CR.out.mono ?_;rintro e w1 ⟨a1,c1,rfl,hV1,hb1⟩;have HV:=Hd hV1;clear hV1;go_wp2;go_ret;exact ⟨_,_,rfl,HV.out,hb1⟩
def qfc (d r v2 u0:Nat):Bool:=decide (65536<=d)||decide (r*65536+u0<d*v2)
theorem qn8 (v:List Int) (n j d r v2 u0 uc vc:Nat) (bd bv bn br bu bj g:Nat) (ul:Nat) (av:Option Addr) (w:World)
  (h0:w.cell? ⟨bd,0,none⟩=some (.int .u64 d)) (h1:w.cell? ⟨bv,0,none⟩=some (.slice av v.length vc)) (h2:w.cell? ⟨bn,0,none⟩=some (.int .i64 ((n+2:Nat):Int)))
  (h3:w.cell? ⟨br,0,none⟩=some (.int .u64 r)) (h4:w.cell? ⟨bu,0,none⟩=some (.slice (some ⟨g,0,none⟩) ul uc)) (h5:w.cell? ⟨bj,0,none⟩=some (.int .i64 j))
  (hv:∃ b off,av=some ⟨b,off,none⟩/\w.cell? ⟨b,off+n,none⟩=some (.int .u16 v2)) (hu:w.cell? ⟨g,j+n,none⟩=some (.int .u16 u0)) (hvl:v.length=n+2) (hul:j+(n+2)<ul) (hul2:ul<=16777216)
  (hd:d<=65537) (hr:r<65536) (hv2:v2<=65535) (hu0:u0<=65535) :
  Calls Tryz.prog 129 #[.pointer (some ⟨bd,0,none⟩),.pointer (some ⟨bv,0,none⟩),.pointer (some ⟨bn,0,none⟩),.pointer (some ⟨br,0,none⟩),.pointer (some ⟨bu,0,none⟩),.pointer (some ⟨bj,0,none⟩)] w
   fun e w'=>e=.returned (.bool (qfc d r v2 u0))/\w'=w.drew:=by
 obtain ⟨b,off,rfl,hcv⟩:=hv;have hp:d*v2<=65537*65535:=Nat.mul_le_mul hd hv2;have hpi:(d:Int)*(v2:Int)=((d*v2:Nat):Int):=by simp
 unfold qfc;revert hp hpi;generalize d*v2=P;intro hp hpi;obtain ⟨W,hW⟩:=nm (r*65536+u0)
 rw [hW];have hor:bits .or .u64 ((r:Int)*65536) (u0:Int)=(W:Int):=by
  have h1:=qg3 (r:=r) (x:=u0) oo;have h2:=u64_or_nat (r*65536) u0 oo oo;rw [h1,hW] at h2;simpa using h2
 have e1:((n+2:Nat):Int)=(n:Int)+2:=oo
 rw [e1] at h2;have hn1:(n:Int)+2-2=(n:Int):=oo
 have hn2:(j:Int)+((n:Int)+2)-2=((j+n:Nat):Int):=oo
 have hvl2:n<v.length:=oo
 have hul3:j+n<ul:=oo
 have f1:IntKind.i64.wrap (n:Int)=(n:Int):=by rw [IntKind.wrap_i64];omega
 have f2:IntKind.i64.wrap ((j:Int)+(n:Int))=(j:Int)+(n:Int):=by rw [IntKind.wrap_i64];omega
 have f3:IntKind.i64.wrap ((j:Int)+((n:Int)+2))=(j:Int)+((n:Int)+2):=by rw [IntKind.wrap_i64];omega
 have f4:IntKind.u64.wrap (P:Int)=(P:Int):=by rw [qjg];congr 1;exact Nat.mod_eq_of_lt oo
 have f5:IntKind.u64.wrap ((r:Int)*65536)=(r:Int)*65536:=by simp [IntKind.wrap,IntKind.bits,IntKind.signed];omega
 have f6:IntKind.u64.wrap (v2:Int)=(v2:Int):=by rw [qjg];congr 1;exact Nat.mod_eq_of_lt oo
 have f7:IntKind.u64.wrap (u0:Int)=(u0:Int):=by rw [qjg];congr 1;exact Nat.mod_eq_of_lt oo
 have f8:(0:Int)<=(n:Int)/\(n:Int)<(v.length:Int):=oo
 have f9:(0:Int)<=(j:Int)+(n:Int)/\(j:Int)+(n:Int)<(ul:Int):=oo
 have f10:((j:Int)+(n:Int)).toNat=j+n:=oo
 clear hW e1 hvl;by_cases hg:65536<=d
 ·
  have hgi:decide ((65536:Int)<=(d:Int))=true:=by simp;omega
  have hgn:decide (65536<=d)=true:=by simpa using hg
  rw [hgn];clear hg;go_enter Tryz.func129,Tryz.ntmps129;go_wp2;refine wrx (S:=(fun x=>x=w.drew)) [(0,.q),(1,.q),(2,.q),(3,.q),(4,.q),(5,.q),(6,.q),(7,.q),(8,.q),(9,.q),(10,.q),(11,.q),(12,.q),(13,.q),(14,.q),(15,.q),(16,.q),(17,.q),(18,.q),(19,.q),(20,.q),(21,.q),(22,.p),(23,.p),(24,.p)] (rfl) ?_
  iterate 3 (refine qaf rfl rfl fun K hK=>xq ?_;go_simp;refine hK _ _ ?_;clear hK K)
  iterate 20 (refine qtv rfl rfl (fun K hK=>?_);go_simp;refine hK _ _ ?_;clear hK K)
  iterate 2 (refine qaj rfl rfl fun K hK=>xp ?_;go_simp;refine hK _ _ ?_;clear hK K)
  refine qad ?_;go_wp2;go_ret;exact ⟨by simp,rfl⟩
 ·
  have hgi:decide ((65536:Int)<=(d:Int))=false:=by simp;omega
  have hgn:decide (65536<=d)=false:=by simpa using hg
  rw [hgn];clear hg;go_enter Tryz.func129,Tryz.ntmps129;go_wp2;refine wrx (S:=(fun x=>x=w.drew)) [(0,.q),(1,.q),(2,.q),(3,.q),(4,.q),(5,.q),(6,.q),(7,.q),(8,.q),(9,.q),(10,.q),(11,.q),(12,.q),(13,.q),(14,.q),(15,.q),(16,.q),(17,.q),(18,.q),(19,.q),(20,.q),(21,.q),(22,.p),(23,.p),(24,.p)] (rfl) ?_
  iterate 22 (refine qaf rfl rfl fun K hK=>xq ?_;go_simp;refine hK _ _ ?_;clear hK K)
  iterate 3 (refine qaj rfl rfl fun K hK=>xp ?_;go_simp;refine hK _ _ ?_;clear hK K)
  refine qad ?_;go_wp2;go_ret;exact ⟨by simp,rfl⟩
end Go.Proofs.YtmdlbpibipnapaaGreat
namespace Go.Proofs.YtmdlbpibipnapaaGreat
structure Top (L v : List Int) (n j u2 u1 u0 v1 v2 : Nat) : Prop where
 e2:qag L (j+(n+2))=u2
 e1:qag L (j+(n+1))=u1
 e0:qag L (j+n)=u0
 f1:qag v (n+1)=v1
 f2:qag v n=v2
theorem qkl {L v:List Int} {n j u2 u1 u0 v1 v2:Nat} (h:Top L v n j u2 u1 u0 v1 v2) (hL:U16 L) (hv:U16 v):u2<=65535/\u1<=65535/\u0<=65535/\v1<=65535/\v2<=65535:=by
 have a:=qbd hL (j+(n+2));have b:=qbd hL (j+(n+1));have c:=qbd hL (j+n);have d:=qbd hv (n+1);have e:=qbd hv n;rw [h.e2] at a;rw [h.e1] at b;rw [h.e0] at c;rw [h.f1] at d;rw [h.f2] at e
 omega
section
variable {L v : List Int} {n j u2 u1 u0 v1 v2 : Nat}
theorem qqg (h:Top L v n j u2 u1 u0 v1 v2) (hL:U16 L) (hv:U16 v) (hvl:v.length=n+2) (hjl:j+(n+2)<L.length) (hlt:val (L.drop (j+1))<val v) (htop:32768<=v1) :
  Guess u2 u1 u0 v1 v2 ((65536*u2+u1) / v1) ((65536*u2+u1) % v1):=by
 obtain ⟨a,b,c,d,e⟩:=qkl h hL hv;have h1:=qvf hL hv hvl hjl hlt;rw [h.e2,h.f1] at h1;exact Guess.start htop d b c oo
theorem qnd (h:Top L v n j u2 u1 u0 v1 v2) (hL:U16 L) (hv:U16 v) (hvl:v.length=n+2) (hjl:j+(n+2)<L.length) (hlt:val (L.drop (j+1))<val v) (htop:32768<=v1) {d r:Nat} (hG:Guess u2 u1 u0 v1 v2 d r)
  (he:65536<=r\/(d<=65535/\d*v2<=r*65536+u0)) :
  d<=65535/\(d=val ((L.drop j).take (n+3)) / val v\/d=val ((L.drop j).take (n+3)) / val v+1)/\(val ((L.drop j).take (n+3))<d*val v↔d=val ((L.drop j).take (n+3)) / val v+1):=by
 obtain ⟨a,b,c,f,e⟩:=qkl h hL hv;have h1:=qvf hL hv hvl hjl hlt;rw [h.e2,h.f1] at h1;obtain ⟨g1,g2,g3⟩:=hG.done e b oo (by rw [Nat.mul_comm 65536 r];exact he);obtain ⟨s1,_,s3⟩:=qmh hv hvl hjl hlt;rw [show n+2+1=n+3 by rfl] at s1 s3;have hsu:U16 ((L.drop j).take (n+3)):=(hL.drop _).take _;obtain ⟨lo,hlo,t⟩:=top3 hsu s3;rw [qey oo,qey oo,qey oo,h.e2,h.e1,h.e0] at t;simp only [Int.toNat_natCast] at t;obtain ⟨lo2,hlo2,t2⟩:=top2 hv hvl;rw [h.f1,h.f2] at t2;simp only [Int.toNat_natCast] at t2;obtain ⟨p1,p2⟩:=qpk hlo t;obtain ⟨p3,p4⟩:=qpk hlo2 t2;have hUV:val ((L.drop j).take (n+3))<65536*val v:=by
  rw [<- s1,qbe L j];have:=qbd hL j
  omega
 obtain ⟨d1,d2⟩:=qze (by have:=qi1 n;omega) p1 p2 p3 p4 htop hUV g1 g2 g3;exact ⟨g1,d1,d2⟩
end
theorem qys {U V d o P b:Nat} (h:U+P*b=d*V+o) (hb:b=0) (hlt:¬ U<d*V) (hd:d=U / V\/d=U / V+1) (hi:U<d*V↔d=U / V+1):d=U / V/\o=U % V:=by
 have h1:d=U / V:=by
  rcases hd with h | h
  · exact h
  · exact (hlt (hi.2 h)).elim
 refine ⟨h1,?_⟩;subst hb;have:=qhl U V;rw [<- h1] at this
 omega
end Go.Proofs.YtmdlbpibipnapaaGreat
namespace Go.Proofs.YtmdlbpibipnapaaGreat
open Go.RowKit
inductive MT where
 | nil
 | q (i:Nat) (r:MT)
 | p (i:Nat) (r:MT)
 | l (i:Nat) (r:MT)
 | t (i:Nat) (r:MT)
 | two (i:Nat) (r:MT) (j:Nat) (r':MT)
 | three (i:Nat) (r:MT) (j:Nat) (r':MT) (k:Nat) (r'':MT)
def MT.size:MT->Nat
 | .nil=>0
 | .q _ r=>r.size+1
 | .p _ r=>r.size+1
 | .l _ r=>r.size+1
 | .t _ r=>r.size+1
 | .two _ r _ _=>r.size+1
 | .three _ r _ _ _ _=>r.size+1
section
variable {P : Program} {ops : Array Oper} {Q : Exit -> Act -> World -> Prop} {md : Region.Mode} {S : World -> Prop}
def okMT (md:Region.Mode) (ops:Array Oper) (T:List Nat):MT->Array Bool->Bool->Bool
 | .nil,listed,_=>(Region.ready md ops listed).isEmpty
 | .q i r,listed,late=>!late&&(!T.contains i&&(T.all (fun j=>dep md ops ops.size j i)&&(Region.free md ops listed i&&((Region.ready md ops listed).contains i&&okMT md ops T r (listed.setIfInBounds i true) late))))
 | .p i r,listed,_=>T.contains i&&(Region.free md ops listed i&&((Region.ready md ops listed).contains i&&okMT md ops T r (listed.setIfInBounds i true) true))
 | .l i r,listed,late=>!late&&(!T.contains i&&((Region.ready md ops listed==[i])&&okMT md ops T r (listed.setIfInBounds i true) late))
 | .t i r,listed,_=>T.contains i&&((Region.ready md ops listed==[i])&&okMT md ops T r (listed.setIfInBounds i true) true)
 | .two i r j r',listed,late=>!late&&(!T.contains i&&(!T.contains j&&((Region.ready md ops listed==[i,j])&&((r.size==r'.size)&&(okMT md ops T r (listed.setIfInBounds i true) late&&okMT md ops T r' (listed.setIfInBounds j true) late)))))
 | .three i r j r' k r'',listed,late=>!late&&(!T.contains i&&(!T.contains j&&(!T.contains k&&((Region.ready md ops listed==[i,j,k])&&((r.size==r'.size)&&((r.size==r''.size)&&(okMT md ops T r (listed.setIfInBounds i true) late&&(okMT md ops T r' (listed.setIfInBounds j true) late&&okMT md ops T r'' (listed.setIfInBounds k true) late))))))))
def qdt (P:Program) (ops:Array Oper) (Q:Exit->Act->World->Prop) (i:Nat) (K:Act->World->Prop) (a:Act) (w:World):Prop:=match opAt ops i with
 | none=>False
 | some o=>if Region.wanted o (yielded ops a.tmps)=true then o.wp P a w K Q else K (a.put o.dst undef) w
def wpMT (P:Program) (ops:Array Oper) (Q:Exit->Act->World->Prop) (S:World->Prop):MT->Act->World->Prop
 | .nil,a,w=>Q .normal a w
 | .q i r,a,w=>match opAt ops i with
  | none=>False
  | some o=>if Region.wanted o (yielded ops a.tmps)=true then ∃ v,(∀ w',S w'->(execOp a.eval o).run P w'=.ok (.value v) w')/\wpMT P ops Q S r (a.put o.dst v) w
   else wpMT P ops Q S r (a.put o.dst undef) w
 | .p i r,a,w=>match opAt ops i with
  | none=>False
  | some o=>if Region.wanted o (yielded ops a.tmps)=true then ∃ v,(∀ w',(execOp a.eval o).run P w'=.ok (.value v) w')/\wpMT P ops Q S r (a.put o.dst v) w
   else wpMT P ops Q S r (a.put o.dst undef) w
 | .l i r,a,w=>qdt P ops Q i (fun a' w'=>S w'/\wpMT P ops Q S r a' w') a w
 | .t i r,a,w=>qdt P ops Q i (fun a' w'=>wpMT P ops Q S r a' w') a w
 | .two i r j r',a,w=>qdt P ops Q i (fun a' w'=>S w'/\wpMT P ops Q S r a' w') a w/\qdt P ops Q j (fun a' w'=>S w'/\wpMT P ops Q S r' a' w') a w
 | .three i r j r' k r'',a,w=>qdt P ops Q i (fun a' w'=>S w'/\wpMT P ops Q S r a' w') a w/\qdt P ops Q j (fun a' w'=>S w'/\wpMT P ops Q S r' a' w') a w/\qdt P ops Q k (fun a' w'=>S w'/\wpMT P ops Q S r'' a' w') a w
def inT (T:List Nat) (i:Nat):Bool:=T.contains i
theorem qdq {i:Nat} {K K':Act->World->Prop} {a:Act} {w:World} (h:qdt P ops Q i K a w) (hK:∀ a' w',K a' w'->K' a' w'):wpOp P ops Q i K' a w:=by
 unfold qdt at h;rw [qe8] at h;unfold wpOp
 cases ho:ops[i]? with
 | none=>rw [ho] at h;exact h.elim
 | some o =>
  rw [ho] at h;simp only at h ⊢;by_cases hw:Region.wanted o (yielded ops a.tmps)=true
  ·
   rw [if_pos hw] at h ⊢;exact .inl (Oper.wp_mono hK h)
  ·
   rw [if_neg hw] at h ⊢;exact hK _ _ h
theorem qcf (hs:Region.noSelect ops=true) (hQ:∀ d v c a w,Q (.panic c) (a.put d v) w->Q (.panic c) a w) (T:List Nat) :
  ∀ (l:MT) (listed:Array Bool) (a:Act) (w:World) (late:Bool),okMT md ops T l listed late=true->qds md ops listed->(late=false->S w)->wpMT P ops Q S l a w ->
   qbp P md ops Q S (inT T) l.size listed a w
 | .nil,listed,a,w,_,hB,_,_,h=>by
  unfold MT.size qbp;exact ⟨by simpa [okMT] using hB,h⟩
 | .q i r,listed,a,w,late,hB,hcl,hS,h=>by
  simp only [okMT,Bool.and_eq_true,Bool.not_eq_true',List.all_eq_true] at hB;obtain ⟨hl,hti,htl,h1,h2,h3⟩:=hB;have h2':i∈Region.ready md ops listed:=by simpa using h2
  unfold wpMT at h;rw [qe8] at h
  cases ho:ops[i]? with
  | none=>rw [ho] at h;exact h.elim
  | some o =>
   rw [ho] at h;simp only at h;have htl':∀ j,inT T j=true->dep md ops ops.size j i=true:=fun j hj=>htl j (by simpa [inT] using hj)
   by_cases hw:Region.wanted o (yielded ops a.tmps)=true
   ·
    rw [if_pos hw] at h;obtain ⟨v,hv,hn⟩:=h;exact qc7 ho hti (Region.noSelect_spec hs) (fun c a w=>hQ _ _ c a w) _ _ _ _ (Region.free_spec ho h1) htl' hcl h2' (.inl ⟨hw,hv⟩) (hS hl) (qcf hs hQ T r _ _ _ late h3 (hcl.set_ h2') hS hn)
   ·
    rw [if_neg hw] at h;exact qc7 ho hti (Region.noSelect_spec hs) (fun c a w=>hQ _ _ c a w) _ _ _ _ (Region.free_spec ho h1) htl' hcl h2' (.inr ⟨by simpa using hw,rfl⟩) (hS hl) (qcf hs hQ T r _ _ _ late h3 (hcl.set_ h2') hS h)
 | .p i r,listed,a,w,late,hB,hcl,hS,h=>by
  simp only [okMT,Bool.and_eq_true] at hB;obtain ⟨hti,h1,h2,h3⟩:=hB;have h2':i∈Region.ready md ops listed:=by simpa using h2
  unfold wpMT at h;rw [qe8] at h
  cases ho:ops[i]? with
  | none=>rw [ho] at h;exact h.elim
  | some o =>
   rw [ho] at h;simp only at h;by_cases hw:Region.wanted o (yielded ops a.tmps)=true
   ·
    rw [if_pos hw] at h;obtain ⟨v,hv,hn⟩:=h;exact qdp ho hti (Region.noSelect_spec hs) (fun c a w=>hQ _ _ c a w) _ _ _ _ (Region.free_spec ho h1) h2' (.inl ⟨hw,hv⟩) (qcf hs hQ T r _ _ _ true h3 (hcl.set_ h2') (fun h=>by cases h) hn)
   ·
    rw [if_neg hw] at h;exact qdp ho hti (Region.noSelect_spec hs) (fun c a w=>hQ _ _ c a w) _ _ _ _ (Region.free_spec ho h1) h2' (.inr ⟨by simpa using hw,rfl⟩) (qcf hs hQ T r _ _ _ true h3 (hcl.set_ h2') (fun h=>by cases h) h)
 | .l i r,listed,a,w,late,hB,hcl,hS,h=>by
  simp only [okMT,Bool.and_eq_true,Bool.not_eq_true',beq_iff_eq] at hB;obtain ⟨hl,hti,h1,h3⟩:=hB;have h2':i∈Region.ready md ops listed:=by rw [h1];simp
  unfold wpMT at h;unfold MT.size qbp;refine ⟨(fun h0=>by rw [h1] at h0;cases h0),fun j hj=>?_⟩;obtain rfl:j=i:=by rw [h1] at hj;simpa using hj
  exact qdq h fun a' w' hh=>⟨fun _=>hh.1,qcf hs hQ T r _ a' w' late h3 (hcl.set_ h2') (fun _=>hh.1) hh.2⟩
 | .t i r,listed,a,w,late,hB,hcl,hS,h=>by
  simp only [okMT,Bool.and_eq_true,beq_iff_eq] at hB;obtain ⟨hti,h1,h3⟩:=hB;have h2':i∈Region.ready md ops listed:=by rw [h1];simp
  unfold wpMT at h;unfold MT.size qbp;refine ⟨(fun h0=>by rw [h1] at h0;cases h0),fun j hj=>?_⟩;obtain rfl:j=i:=by rw [h1] at hj;simpa using hj
  have hno:inT T j=false->False:=fun h=>by rw [inT,hti] at h;cases h
  exact qdq h fun a' w' hh=>⟨fun h=>(hno h).elim,qcf hs hQ T r _ a' w' true h3 (hcl.set_ h2') (fun h=>by cases h) hh⟩
 | .two i r j r',listed,a,w,late,hB,hcl,hS,h=>by
  simp only [okMT,Bool.and_eq_true,Bool.not_eq_true',beq_iff_eq] at hB;obtain ⟨hl,hti,htj,h1,hsz,h3,h4⟩:=hB;have hi':i∈Region.ready md ops listed:=by rw [h1];simp
  have hj':j∈Region.ready md ops listed:=by rw [h1];simp
  unfold wpMT at h;unfold MT.size qbp;refine ⟨(fun h0=>by rw [h1] at h0;cases h0),fun k hk=>?_⟩;rw [h1] at hk;rcases List.mem_cons.1 hk with rfl | hk
  · exact qdq h.1 fun a' w' hh=>⟨fun _=>hh.1,qcf hs hQ T r _ a' w' late h3 (hcl.set_ hi') (fun _=>hh.1) hh.2⟩
  ·
   obtain rfl:k=j:=by simpa using hk
   refine qdq h.2 fun a' w' hh=>⟨fun _=>hh.1,?_⟩
   rw [hsz];exact qcf hs hQ T r' _ a' w' late h4 (hcl.set_ hj') (fun _=>hh.1) hh.2
 | .three i r j r' k r'',listed,a,w,late,hB,hcl,hS,h=>by
  simp only [okMT,Bool.and_eq_true,Bool.not_eq_true',beq_iff_eq] at hB;obtain ⟨hl,hti,htj,htk,h1,hsz,hsz2,h3,h4,h5⟩:=hB;have hi':i∈Region.ready md ops listed:=by rw [h1];simp
  have hj':j∈Region.ready md ops listed:=by rw [h1];simp
  have hk':k∈Region.ready md ops listed:=by rw [h1];simp
  unfold wpMT at h;unfold MT.size qbp;refine ⟨(fun h0=>by rw [h1] at h0;cases h0),fun m hm=>?_⟩;rw [h1] at hm;rcases List.mem_cons.1 hm with rfl | hm
  · exact qdq h.1 fun a' w' hh=>⟨fun _=>hh.1,qcf hs hQ T r _ a' w' late h3 (hcl.set_ hi') (fun _=>hh.1) hh.2⟩
  ·
   rcases List.mem_cons.1 hm with rfl | hm
   ·
    refine qdq h.2.1 fun a' w' hh=>⟨fun _=>hh.1,?_⟩
    rw [hsz];exact qcf hs hQ T r' _ a' w' late h4 (hcl.set_ hj') (fun _=>hh.1) hh.2
   ·
    obtain rfl:m=k:=by simpa using hm
    refine qdq h.2.2 fun a' w' hh=>⟨fun _=>hh.1,?_⟩
    rw [hsz2];exact qcf hs hQ T r'' _ a' w' late h5 (hcl.set_ hk') (fun _=>hh.1) hh.2
attribute [irreducible] wpMT
theorem qdb {id:Nat} {a:Act} {w:World} (l:MT) (T:List Nat) (hm:P.follows .mixedOrders=true) (hs:Region.noSelect ops=true)
  (hB:(l.size==ops.size&&okMT .any ops T l (Array.replicate ops.size false) false)=true)
  (hQ:∀ d v c a w,Q (.panic c) (a.put d v) w->Q (.panic c) a w) (hS:S w.drew) (h:wpMT P ops Q S l a w.drew):(Code.region id ops true).wp P Q a w:=by
 simp only [Bool.and_eq_true,beq_iff_eq] at hB;refine wp_region_any hm (qf2 (S:=S) (tl:=inT T) _ _ _ _ ?_);have hc:qds .any ops (Array.replicate ops.size false):=fun k o _ hk=>by
  exfalso;rcases Nat.lt_or_ge k ops.size with h' | h'
  · simp [h'] at hk
  · simp [Nat.not_lt.2 h'] at hk
 have:=qcf (md:=.any) hs hQ T l _ a w.drew false hB.2 hc (fun _=>hS) h
 rwa [hB.1] at this
theorem qdu {a:Act} {w:World} (h:Q .normal a w):wpMT P ops Q S .nil a w:=by unfold wpMT;exact h
theorem qgq {i:Nat} {r:MT} {o:Oper} {a:Act} {w:World} (ho:opAt ops i=some o) (hw:Region.wanted o (yielded ops a.tmps)=true)
  (h:∀ K:Act->World->Prop,(∀ a' w',wpMT P ops Q S r a' w'->K a' w')->∃ v,(∀ w',S w'->(execOp a.eval o).run P w'=.ok (.value v) w')/\K (a.put o.dst v) w) :
  wpMT P ops Q S (.q i r) a w:=by
 unfold wpMT;rw [ho];simp only;rw [if_pos hw];exact h _ (fun _ _ h=>h)
theorem qwt {i:Nat} {r:MT} {o:Oper} {a:Act} {w:World} (ho:opAt ops i=some o) (hw:Region.wanted o (yielded ops a.tmps)=true)
  (h:∀ K:Act->World->Prop,(∀ a' w',wpMT P ops Q S r a' w'->K a' w')->∃ v,(∀ w',(execOp a.eval o).run P w'=.ok (.value v) w')/\K (a.put o.dst v) w) :
  wpMT P ops Q S (.p i r) a w:=by
 unfold wpMT;rw [ho];simp only;rw [if_pos hw];exact h _ (fun _ _ h=>h)
theorem qa7 {i:Nat} {r:MT} {o:Oper} {a:Act} {w:World} (ho:opAt ops i=some o) (hw:Region.wanted o (yielded ops a.tmps)=true)
  (h:∀ K:Act->World->Prop,Hid (∀ a' w',S w'->(S w'->wpMT P ops Q S r a' w')->K a' w')->o.wp P a w K Q) :
  wpMT P ops Q S (.l i r) a w:=by
 unfold wpMT qdt;rw [ho];simp only;rw [if_pos hw];exact h _ (fun _ _ h k=>⟨h,k h⟩)
theorem qhy {i:Nat} {r:MT} {o:Oper} {a:Act} {w:World} (ho:opAt ops i=some o) (hw:Region.wanted o (yielded ops a.tmps)=true)
  (h:∀ K:Act->World->Prop,Hid (∀ a' w',wpMT P ops Q S r a' w'->K a' w')->o.wp P a w K Q) :
  wpMT P ops Q S (.t i r) a w:=by
 unfold wpMT qdt;rw [ho];simp only;rw [if_pos hw];exact h _ (fun _ _ h=>h)
theorem qdh {i j:Nat} {r r':MT} {a:Act} {w:World} (h:wpMT P ops Q S (.l i r) a w) (h':wpMT P ops Q S (.l j r') a w):wpMT P ops Q S (.two i r j r') a w:=by
 unfold wpMT at h h' ⊢;exact ⟨h,h'⟩
end
end Go.Proofs.YtmdlbpibipnapaaGreat
