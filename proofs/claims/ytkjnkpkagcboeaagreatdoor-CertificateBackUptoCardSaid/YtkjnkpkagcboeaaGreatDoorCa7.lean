/- A valid number as it lies in memory, as a handle. No function of the program in sight. -/
import Derived.Test.YtkjnkpkagcboeaaGreatDoorCa2
import Derived.Test.YtkjnkpkagcboeaaGreatDoorCa3
import Derived.Test.YtkjnkpkagcboeaaGreatDoorCa6
import Derived.Test.YtkjnkpkagcboeaaGreatDoorCa1
import Derived.Test.YtkjnkpkagcboeaaGreatDoorRows
import Derived.Deep.QuietTactic
import Derived.BigQuiet
import Derived.Deep.Upon
import Derived.Test.YtkjnkpkagcboeaaGreatDoorCa4
import Derived.Lib.SplitLaws
import Derived.Test.YtkjnkpkagcboeaaGreatDoorCa5
import Derived.Laws.IdiomStrings
import Derived.Test.YtkjnkpkagcboeaaGreatDoorProg
import Derived.Ground.NamesProg
import Derived.Shelf.Lays
import Derived.Shelf.Strings.BuilderK
set_option linter.all false
set_option maxRecDepth 100000
set_option maxHeartbeats 4000000
namespace Go.Proofs.YtkjnkpkagcboeaaGreatDoor
open Go.RowKit
def maskAt (acc:List Nat) (j:Nat):Nat:=if j < acc.length then acc.getD (acc.length - 1 - j) 0 else 0
def maskOf (md:Region.Mode) (acc:List Nat) (o:Oper):Nat:=o.after.toList.foldl (fun m e=>if Region.binds md e then m ||| (2 ^ e.on ||| maskAt acc e.on) else m) 0
def goM (md:Region.Mode) (k:List Nat -> Bool):List Oper -> List Nat -> Bool
 | [],acc=>k acc
 | o :: r,acc=>match maskOf md acc o with
  | 0=>goM md k r (0 :: acc)
  | m + 1=>goM md k r ((m + 1) :: acc)
def orderM (md:Region.Mode) (ops:Array Oper) (l:List (Nat × Mode4)):Bool :=
 goM md (fun acc=>l.all fun x=>match x.2 with
  | .q=>l.all fun y=>!y.2.tail || (maskAt acc y.1).testBit x.1
  | _=>true) ops.toList []
def GoodM (md:Region.Mode) (ops:Array Oper) (acc:List Nat):Prop:=∀ j i,(maskAt acc j).testBit i = true -> ∀ n,j < n -> dep md ops n j i = true
theorem fold_bit {md:Region.Mode} {acc:List Nat} {i:Nat}:∀ (l:List Edge) (m:Nat),(l.foldl (fun m e=>if Region.binds md e then m ||| (2 ^ e.on ||| maskAt acc e.on) else m) m).testBit i = true ->
  m.testBit i = true \/ ∃ e ∈ l,Region.binds md e = true /\ (e.on = i \/ (maskAt acc e.on).testBit i = true)
 | [],m,h=>.inl h
 | e :: l,m,h=>by
  rw [List.foldl_cons] at h;rcases fold_bit l _ h with h1 | ⟨e',he,h2⟩
  ·
   by_cases hb:Region.binds md e = true
   ·
    rw [if_pos hb,Nat.testBit_or,Bool.or_eq_true] at h1;rcases h1 with h1 | h1
    · exact .inl h1
    ·
     rw [Nat.testBit_or,Bool.or_eq_true] at h1;refine .inr ⟨e,by simp,hb,?_⟩;rcases h1 with h1 | h1
     · left; rw [Nat.testBit_two_pow] at h1; simpa using h1
     · exact .inr h1
   ·
    rw [if_neg hb] at h1;exact .inl h1
  · exact .inr ⟨e',by simp [he],h2⟩
theorem GoodM.step {md:Region.Mode} {ops:Array Oper} {acc:List Nat} {o:Oper} (h:GoodM md ops acc) (ho:ops[acc.length]? = some o):GoodM md ops (maskOf md acc o :: acc):=by
 intro j i hj n hn;unfold maskAt at hj
 split at hj
 ·
  next hlt =>
  rw [List.length_cons] at hlt;by_cases hje:j = acc.length
  ·
   subst hje;have:(maskOf md acc o :: acc).getD ((maskOf md acc o :: acc).length - 1 - acc.length) 0 = maskOf md acc o:=by simp
   rw [this] at hj;rcases fold_bit _ _ hj with h1 | ⟨e,he,hb,h1⟩
   · simp at h1
   ·
    cases n with
    | zero=>omega
    | succ n =>
     unfold dep;rw [ho];dsimp only;rw [Array.any_eq_true'];refine ⟨e,by simpa using he,?_⟩;rw [hb,Bool.true_and,Bool.or_eq_true];rcases h1 with h1 | h1
     · left; simpa using h1
     ·
      right;have hlt2:e.on < acc.length:=by
       unfold maskAt at h1
       split at h1
       · assumption
       · simp at h1
      exact h _ _ h1 n (by omega)
  ·
   have:(maskOf md acc o :: acc).getD ((maskOf md acc o :: acc).length - 1 - j) 0 = maskAt acc j:=by
    unfold maskAt;rw [if_pos (by omega),List.length_cons,show acc.length + 1 - 1 - j = (acc.length - 1 - j) + 1 by omega,List.getD_cons_succ]
   rw [this] at hj;exact h _ _ hj n hn
 · simp at hj
theorem goM_good {md:Region.Mode} {ops:Array Oper} {k:List Nat -> Bool}:∀ (r:List Oper) (acc:List Nat),GoodM md ops acc -> (∀ j,r[j]? = ops[acc.length + j]?) -> goM md k r acc = true ->
  ∃ acc',GoodM md ops acc' /\ k acc' = true
 | [],acc,hg,_,h=>⟨acc,hg,h⟩
 | o :: r,acc,hg,hr,h=>by
  have ho:ops[acc.length]? = some o:=by have:=hr 0; simpa using this.symm
  have hs:=hg.step ho;unfold goM at h;have hr':∀ j,r[j]? = ops[acc.length + 1 + j]?:=fun j=>by have:=hr (j + 1); rw [List.getElem?_cons_succ] at this; rw [this]; congr 1; omega
  split at h
  ·
   next hm =>
   rw [hm] at hs;exact goM_good r _ hs hr' h
  ·
   next m hm =>
   rw [hm] at hs;exact goM_good r _ hs hr' h
theorem orderB_of_M {md:Region.Mode} {ops:Array Oper} {l:List (Nat × Mode4)} (hd:decide (l.map (·.1)).Nodup = true) (hin:(l.all fun x=>decide (x.1 < ops.size)) = true) (h:orderM md ops l = true):orderB md ops l = true:=by
 obtain ⟨acc,hg,hk⟩:=goM_good (ops:=ops) ops.toList [] (fun j i hj=>by simp [maskAt] at hj) (fun j=>by simp) h;unfold orderB;rw [hd,Bool.true_and,List.all_eq_true];rw [List.all_eq_true] at hk hin;intro x hx;have h1:=hk x hx;obtain ⟨xi,xm⟩:=x
 cases xm with
 | q =>
  dsimp only at h1 ⊢;rw [List.all_eq_true] at h1 ⊢;intro y hy;have h2:=h1 y hy;rw [Bool.or_eq_true] at h2 ⊢;rcases h2 with h2 | h2
  · exact .inl h2
  · exact .inr (hg _ _ h2 _ (by simpa using hin y hy))
 | p=>rfl
 | l=>rfl
 | t=>rfl
section
variable {P : Program} {ops : Array Oper} {Q : Exit -> Act -> World -> Prop} {S : World -> Prop}
theorem wp_region_mixM {id:Nat} {a:Act} {w:World} (l:List (Nat × Mode4)) (hm:P.follows .mixedOrders = true) (hs:Region.noSelect ops = true)
  (hB:((l.length == ops.size && (decide (l.map (·.1)).Nodup && l.all fun x=>decide (x.1 < ops.size))) && (orderM .any ops l && (lateB l false && mixB .any ops l (Array.replicate ops.size false)))) = true)
  (hQ:∀ d v c a w,Q (.panic c) (a.put d v) w -> Q (.panic c) a w) (hS:S w.drew) (h:wpMix P ops Q S l a w.drew):(Code.region id ops true).wp P Q a w:=by
 simp only [Bool.and_eq_true] at hB;obtain ⟨⟨h1,h2,h3⟩,h4,h5,h6⟩:=hB;refine wp_region_mix l hm hs ?_ hQ hS h;rw [h1,orderB_of_M h2 h3 h4,h5,h6]; rfl
end
theorem rightI_any (neg:Bool) (num:List Int) (a:Option Addr) (c:Nat) (w:World) (h:NatR w a c num) :
  Calls Tryz.prog 97 #[.agg #[.bool neg,.slice a num.length c]] w fun e w'=>e = .returned (.bool (rightI neg num)) /\ Below w.heap.size w w':=by
 have hlen:=h.len;have hu:=h.u16;have hb0:Below w.heap.size w (w.alloc (.cells #[.bool neg,.slice a num.length c] 52)):=brf.alloc (nlr _) _;by_cases h0:num.length = 0
 ·
  obtain rfl:num = []:=List.length_eq_zero_iff.1 h0;have hr:rightI neg [] = !neg:=by simp [rightI,canonB,val,limbs_zero]
  rw [hr];clear h hu h0 hr
  cases neg
  all_goals
   go_enter Tryz.func97,Tryz.ntmps97;go_wp2;go_ret;exact ⟨rfl,hb0⟩
 ·
  obtain ⟨x,hx⟩:=get_of_lt (xs:=num) (k:=num.length - 1) (by omega);obtain ⟨b,off,rfl,hc⟩:=h.cell hx;have hcan:=canonB_last hu hx (by omega);have hr:rightI neg num = !(x == 0):=by
   unfold rightI;rw [hcan];simp [h0]
  rw [hr];have hk:=held hc;have hbl:b < w.heap.size:=by have:=World.block_lt_of_cell? w _ hc; simpa using this
  have hbl2:b < w.heap.size + 1:=by omega
  have hi1:(0:Int) <= (num.length:Int) - 1:=by omega
  have hti:((num.length:Int) - 1).toNat = num.length - 1:=by omega
  have hgt:decide (0 < num.length) = true:=by rw [decide_eq_true_eq]; omega
  have hgt2:decide ((0:Int) < (num.length:Int)) = true:=by rw [decide_eq_true_eq]; omega
  have he:((num.length:Int) == 0) = false:=by rw [beq_eq_false_iff_ne]; omega
  clear h hu hx hc hcan hr;by_cases hx0:x = 0
  ·
   subst hx0;go_enter Tryz.func97,Tryz.ntmps97;go_wp2;go_ret;exact ⟨rfl,hb0⟩
  ·
   have hxb:(x == 0) = false:=by simpa using hx0
   have hxn:(x != 0) = true:=by simpa using hx0
   rw [hxb];clear hx0;go_enter Tryz.func97,Tryz.ntmps97;go_wp2;go_ret;exact ⟨rfl,hb0⟩
theorem rt_right_one {neg:Bool} {num den:List Int} (hI:rightI neg num = true) (hc:canonB den = true) (h0:0 < den.length) (h1:decide (den.length = 1 /\ limbAt den 0 = 1) = true):Rt.right ⟨neg,num,den⟩ = true:=by
 rw [decide_eq_true_eq] at h1;obtain ⟨h1,h2⟩:=h1
 match den,h1 with
 | [x],_ =>
  simp [limbAt] at h2;subst h2;simp [Rt.right,hI,hc,val]
theorem rt_right_gcd {neg:Bool} {num den:List Int} (hI:rightI neg num = true) (hc:canonB den = true) (h0:0 < den.length):Rt.right ⟨neg,num,den⟩ = decide (Nat.gcd (val num) (val den) = 1):=by
 simp [Rt.right,hI,hc,h0]
theorem rightQ_any (r:Rt) (na:Option Addr) (nc:Nat) (da:Option Addr) (dc:Nat) (w:World) (h:NatR w na nc r.num) (h':NatR w da dc r.den) (hl:r.num.length <= 2000000) (hm:r.den.length <= 2000000) :
  Calls Tryz.prog 51 #[r.val na nc da dc] w fun e w'=>e = .returned (.bool r.right) /\ Below w.heap.size w w':=by
 obtain ⟨neg,num,den⟩:=r;have CR:=fun W (hW:Below w.heap.size w W)=>rightI_any neg num na nc W (h.ext (xbw hW))
 have CO:=fun W (hW:Below w.heap.size w W)=>one_any den da dc W (h'.ext (xbw hW))
 have CG:=fun W (hW:Below w.heap.size w W)=>gcd_any num den (val num) (val den) na da nc dc W (h.ext (xbw hW)) (h'.ext (xbw hW)) rfl rfl hl hm
 have CO2:=fun n a c W=>one_any (limbs n) a c W
 simp only [one_limbs] at CO2;unfold Rt.val;dsimp only;dsimp only at hl hm;obtain ⟨res,hres⟩:∃ q,Rt.right ⟨neg,num,den⟩ = q:=⟨_,rfl⟩
 rw [hres];obtain ⟨b1,hb1⟩:∃ b,rightI neg num = b:=⟨_,rfl⟩
 rw [hb1] at CR;replace CR:=Hd CR; replace CO:=Hd CO; replace CG:=Hd CG; replace CO2:=Hd CO2;have hw0:Below w.heap.size w (w.alloc (.cells #[.bool neg,.slice na num.length nc,.slice da den.length dc] 54)):=brf.alloc (nlr _) _;have hz:Blk (w.alloc (.cells #[.bool neg,.slice na num.length nc,.slice da den.length dc] 54)) w.heap.size 54 #[.bool neg,.slice na num.length nc,.slice da den.length dc]:=Blk.new w _ _
 cases b1
 ·
  have hr:res = false:=by rw [<- hres]; simp [Rt.right,hb1]
  subst hr;clear hres hb1 h h' hz;go_enter Tryz.func51,Tryz.ntmps51;go_wp2_with fail;refine (CR.out _ hw0).mono ?_;rintro e w1 ⟨rfl,hb⟩;have hw1:=bth hw0 hb;go_wp2;go_ret;exact ⟨rfl,hw1⟩
 ·
  by_cases h0:den.length = 0
  ·
   have hr:res = false:=by rw [<- hres]; simp [Rt.right,h0]
   subst hr;obtain rfl:den = []:=List.length_eq_zero_iff.1 h0;clear hres hb1 h h' hz h0;go_enter Tryz.func51,Tryz.ntmps51;go_wp2_with fail;refine (CR.out _ hw0).mono ?_;rintro e w1 ⟨rfl,hb⟩;have hw1:=bth hw0 hb;go_wp2;go_ret;exact ⟨rfl,hw1⟩
  ·
   obtain ⟨x,hx⟩:=get_of_lt (xs:=den) (k:=den.length - 1) (by omega);obtain ⟨b,off,rfl,hc⟩:=h'.cell hx;have hcan:=canonB_last (l:=den) h'.u16 hx (by omega);have hk:=held hc;have hi1:(0:Int) <= (den.length:Int) - 1:=by omega
   have hti:((den.length:Int) - 1).toNat = den.length - 1:=by omega
   have hdl:(den.length:Int) <= 2000000:=by omega
   have he:((den.length:Int) == 0) = false:=by rw [beq_eq_false_iff_ne]; omega
   by_cases hx0:x = 0
   ·
    subst hx0;have hr:res = false:=by rw [<- hres]; simp [Rt.right,hcan]
    subst hr;clear hres hb1 h h' hx hc hcan h0;go_enter Tryz.func51,Tryz.ntmps51;go_wp2_with fail;revert hw0 hz;generalize w.alloc (.cells #[.bool neg,.slice na num.length nc,.slice (some ⟨b,off,none⟩) den.length dc] 54) = w0;intro hw0 hz;refine (CR.out _ hw0).mono ?_;rintro e w1 ⟨rfl,hb⟩;have hw1:=bth hw0 hb;have hz1:=hz.below' hb;have z1:=hz1.cell 1; have z2:=hz1.cell 2; have z0:=hz1.cell 0;have k1:=hk _ hw1;clear hb hz hw0;go_wp2;go_ret;exact ⟨rfl,hw1⟩
   ·
    have hxb:(x == 0) = false:=by simpa using hx0
    have hcan2:canonB den = true:=by rw [hcan,hxb]; rfl
    obtain ⟨bo,hbo⟩:∃ q,decide (den.length = 1 /\ limbAt den 0 = 1) = q:=⟨_,rfl⟩
    rw [hbo] at CO;have HRES:=Hd hres;have HB1:=Hd hb1;have HC:=Hd hcan2;have HBO:=Hd hbo;have H0:=Hd h0;clear hres hb1 h h' hx hc hcan hcan2 hbo h0 hx0
    cases bo
    ·
     obtain ⟨g,hg⟩:∃ g,Nat.gcd (val num) (val den) = g:=⟨_,rfl⟩
     have hr:decide (g = 1) = res:=by rw [<- HRES.out,rt_right_gcd HB1.out HC.out (by have:=H0.out; omega)]; simp only [hg]
     rw [hg] at CG;have CO3:=CO2.out g;rw [hr] at CO3;replace CO3:=Hd CO3;clear hg hr CO2;go_enter Tryz.func51,Tryz.ntmps51;go_wp2_with fail;revert hw0 hz;generalize w.alloc (.cells #[.bool neg,.slice na num.length nc,.slice (some ⟨b,off,none⟩) den.length dc] 54) = w0;intro hw0 hz;refine (CR.out _ hw0).mono ?_;rintro e w1 ⟨rfl,hb⟩;have hw1:=bth hw0 hb;have hz1:=hz.below' hb;have z1:=hz1.cell 1; have z2:=hz1.cell 2; have z0:=hz1.cell 0;have k1:=hk _ hw1;clear hb hz hw0;go_wp2_with fail;refine (CO.out _ hw1).mono ?_;rintro e w2 ⟨rfl,hb⟩;have hw2:=bth hw1 hb;have hz2:=hz1.below' hb;have y1:=hz2.cell 1; have y2:=hz2.cell 2; have y0:=hz2.cell 0;clear hb hz1 hw1 z0 z1 z2 k1;go_wp2_with fail;refine (CG.out _ hw2).mono ?_;rintro e w3 ⟨a3,c3,rfl,hV,hb⟩;have hw3:=bth hw2 hb;have hrd:=hV w3 (New.refl _ _);clear hb hV y0 y1 y2;go_wp2_with fail;refine (CO3.out _ _ _ hrd).mono ?_
     rintro e w4 ⟨rfl,hb⟩;have hw4:=bth hw3 hb;clear hrd hb;go_wp2;go_ret;exact ⟨rfl,hw4⟩
    ·
     have hr:res = true:=by rw [<- HRES.out]; exact rt_right_one HB1.out HC.out (by have:=H0.out; omega) HBO.out
     subst hr;go_enter Tryz.func51,Tryz.ntmps51;go_wp2_with fail;revert hw0 hz;generalize w.alloc (.cells #[.bool neg,.slice na num.length nc,.slice (some ⟨b,off,none⟩) den.length dc] 54) = w0;intro hw0 hz;refine (CR.out _ hw0).mono ?_;rintro e w1 ⟨rfl,hb⟩;have hw1:=bth hw0 hb;have hz1:=hz.below' hb;have z1:=hz1.cell 1; have z2:=hz1.cell 2; have z0:=hz1.cell 0;have k1:=hk _ hw1;clear hb hz hw0;go_wp2_with fail;refine (CO.out _ hw1).mono ?_;rintro e w2 ⟨rfl,hb⟩;have hw2:=bth hw1 hb;go_wp2;go_ret;exact ⟨rfl,hw2⟩
theorem lex_any (s t:Trm) (p q:RA) (w:World) (h:IntsR w p.aa p.ac s.mono) (h':IntsR w q.aa q.ac t.mono) :
  Calls Tryz.prog 53 #[s.val p,t.val q] w fun e w'=>e = .returned (.int .i64 (lexI s.mono t.mono)) /\ Below w.heap.size w w':=by
 have CC:=fun W (hW:Below w.heap.size w W)=>cmpP5_any s.mono t.mono p.aa q.aa p.ac q.ac W (h.ext (xbw hW)) (h'.ext (xbw hW))
 revert CC;generalize lexI s.mono t.mono = R;intro CC;replace CC:=Hd CC;unfold Trm.val;have hx:Blk ((w.alloc (.cells #[.bool s.coef.neg,.slice p.na s.coef.num.length p.nc,.slice p.da s.coef.den.length p.dc,.slice p.aa s.mono.length p.ac] 57)).alloc (.cells #[.bool t.coef.neg,.slice q.na t.coef.num.length q.nc,.slice q.da t.coef.den.length q.dc,.slice q.aa t.mono.length q.ac] 57)) w.heap.size 57 #[.bool s.coef.neg,.slice p.na s.coef.num.length p.nc,.slice p.da s.coef.den.length p.dc,.slice p.aa s.mono.length p.ac]:=(Blk.new w _ _).alloc _
 have hy:Blk ((w.alloc (.cells #[.bool s.coef.neg,.slice p.na s.coef.num.length p.nc,.slice p.da s.coef.den.length p.dc,.slice p.aa s.mono.length p.ac] 57)).alloc (.cells #[.bool t.coef.neg,.slice q.na t.coef.num.length q.nc,.slice q.da t.coef.den.length q.dc,.slice q.aa t.mono.length q.ac] 57)) (w.heap.size + 1) 57 #[.bool t.coef.neg,.slice q.na t.coef.num.length q.nc,.slice q.da t.coef.den.length q.dc,.slice q.aa t.mono.length q.ac]:=blk_at1 w _ _ _;have hb0:Below w.heap.size w ((w.alloc (.cells #[.bool s.coef.neg,.slice p.na s.coef.num.length p.nc,.slice p.da s.coef.den.length p.dc,.slice p.aa s.mono.length p.ac] 57)).alloc (.cells #[.bool t.coef.neg,.slice q.na t.coef.num.length q.nc,.slice q.da t.coef.den.length q.dc,.slice q.aa t.mono.length q.ac] 57)):=by go_grown
 clear h h';go_enter Tryz.func53,Tryz.ntmps53;go_wp2_with fail;revert hx hy hb0;generalize (w.alloc (.cells #[.bool s.coef.neg,.slice p.na s.coef.num.length p.nc,.slice p.da s.coef.den.length p.dc,.slice p.aa s.mono.length p.ac] 57)).alloc (.cells #[.bool t.coef.neg,.slice q.na t.coef.num.length q.nc,.slice q.da t.coef.den.length q.dc,.slice q.aa t.mono.length q.ac] 57) = w0;intro hx hy hb0;have z3:=hx.cell 3; have y3:=hy.cell 3;go_wp2_with fail;refine (CC.out _ hb0).mono ?_;rintro e w1 ⟨rfl,rfl⟩;go_wp2;go_ret;exact ⟨rfl,hb0⟩
theorem all_succ {P:Nat -> Prop} {k:Nat} (h:∀ j,j < k -> P j) (hk:P k):∀ j,j < k + 1 -> P j:=fun j hj=>by
 by_cases hjk:j = k
 · subst hjk; exact hk
 · exact h j (by omega)
theorem okT_coef {t:Trm} (h:t.coef.right = false):okT t = false:=by unfold okT; rw [h]; rfl
theorem okT_zero {t:Trm} (h:val t.coef.num = 0):okT t = false:=by unfold okT; rw [decide_eq_true h]; simp
theorem okT_mono {t:Trm} (h:monoB t.mono = false):okT t = false:=by unfold okT; rw [h]; simp
theorem okT_all {t:Trm} (h:t.coef.right = true) (h1:val t.coef.num ≠ 0) (h2:monoB t.mono = true):okT t = true:=by unfold okT; rw [h,h2,decide_eq_false h1]; rfl
theorem okT_range {t:Trm} (h:okT t = true):∀ x ∈ t.mono,0 <= x /\ x <= 1048576:=by
 unfold okT at h;simp only [Bool.and_eq_true] at h;exact (monoB_mem h.2).2
theorem right_den {r:Rt} (h:r.right = true):0 < r.den.length /\ canonB r.den = true:=by
 unfold Rt.right at h;simp only [Bool.and_eq_true,decide_eq_true_eq] at h;exact ⟨h.2,h.1.1.2⟩
theorem right_pos {r:Rt} (h:r.right = true):val r.den ≠ 0:=by
 obtain ⟨h1,h2⟩:=right_den h;intro h0;have:limbs (val r.den) = r.den:=of_decide_eq_true h2;rw [h0,limbs_zero] at this;rw [<- this] at h1;simp at h1
theorem sgnZ_eq (neg:Bool) (n:Nat):(sgnZ neg n == 0) = decide (n = 0):=by
 unfold sgnZ;by_cases h:n = 0
 · rw [if_pos h,decide_eq_true h]; rfl
 · rw [if_neg h,decide_eq_false h]; cases neg <;> rfl
theorem polyP_any (l:List Trm) (a:Option Addr) (c:Nat) (w:World) (h:PolyR w a c l) (hq:∀ t ∈ l,t.coef.num.length <= 2000000 /\ t.coef.den.length <= 2000000) :
  Calls Tryz.prog 25 #[.slice a l.length c] w fun e w'=>e = .returned (.bool (polyB l)) /\ Below w.heap.size w w':=by
 have hlen:=h.len;obtain ⟨res,hres⟩:∃ x,polyB l = x:=⟨_,rfl⟩
 rw [hres];have HRES:=Hd hres;have HP:=Hd h;have HQ:=Hd hq;clear hres h hq;go_enter Tryz.func25,Tryz.ntmps25;go_wp2
 go_loopg [3,4,7] l.length (fun g _ _ q wr=>∃ k:Nat,k + g = l.length /\ q = .int .i64 k /\ Below w.heap.size w wr /\ ∀ j,j < k -> badAt l j = false)
 case atStart=>exact ⟨0,by omega,rfl,Below.refl _ _,fun j hj=>by omega⟩
 case round =>
  obtain ⟨k,hkg,rfl,hwr,hall⟩:=hrel;have HKG:=Hd hkg;have HA:=Hd hall;clear hkg hall;by_cases hlt:k < l.length
  ·
   obtain ⟨t,ht⟩:=get_of_lt hlt;have hPr:=HP.out.ext (xbw hwr);have htq:=HQ.out t (List.mem_of_getElem? ht);obtain ⟨b,off,hao,p,hC,hP⟩:=hPr.2.2 k t ht;subst hao;obtain ⟨c0,c1,c2,c3⟩:=hC;obtain ⟨hP1,hP2,hP3⟩:=hP;have HT:=Hd ht;have HPR:=Hd hPr;obtain ⟨⟨neg,num,den⟩,mono⟩:=t;dsimp only at c0 c1 c2 c3 hP1 hP2 hP3 htq;have CR:=fun W (hW:Below wr.heap.size wr W)=>rightQ_any ⟨neg,num,den⟩ p.na p.nc p.da p.dc W (hP2.ext (xbw hW)) (hP3.ext (xbw hW)) htq.1 htq.2
   unfold Rt.val at CR;dsimp only at CR;replace CR:=Hd CR;have HP1:=Hd hP1; have HP2:=Hd hP2; have HP3:=Hd hP3; have HTQ:=Hd htq;have hbl:b < wr.heap.size:=World.block_lt_of_cell? wr _ c0;clear ht hPr hP1 hP2 hP3 htq;have d0:=held ((ext_alloc wr (.cells #[.bool neg,.slice p.na num.length p.nc,.slice p.da den.length p.dc,.slice p.aa mono.length p.ac] 57)) _ _ c0);have d1:=held ((ext_alloc wr (.cells #[.bool neg,.slice p.na num.length p.nc,.slice p.da den.length p.dc,.slice p.aa mono.length p.ac] 57)) _ _ c1);have d2:=held ((ext_alloc wr (.cells #[.bool neg,.slice p.na num.length p.nc,.slice p.da den.length p.dc,.slice p.aa mono.length p.ac] 57)) _ _ c2);have d3:=held ((ext_alloc wr (.cells #[.bool neg,.slice p.na num.length p.nc,.slice p.da den.length p.dc,.slice p.aa mono.length p.ac] 57)) _ _ c3)
   have hx:=Blk.new wr 57 #[.bool neg,.slice p.na num.length p.nc,.slice p.da den.length p.dc,.slice p.aa mono.length p.ac];have hw2:=hwr.alloc hwr.size (.cells #[.bool neg,.slice p.na num.length p.nc,.slice p.da den.length p.dc,.slice p.aa mono.length p.ac] 57);have hwa:Below wr.heap.size wr (wr.alloc (.cells #[.bool neg,.slice p.na num.length p.nc,.slice p.da den.length p.dc,.slice p.aa mono.length p.ac] 57)):=brf.alloc (nlr _) _;go_wp2;clear c0 c1 c2 c3;have hwb:∀ W,Below (wr.alloc (.cells #[.bool neg,.slice p.na num.length p.nc,.slice p.da den.length p.dc,.slice p.aa mono.length p.ac] 57)).heap.size (wr.alloc (.cells #[.bool neg,.slice p.na num.length p.nc,.slice p.da den.length p.dc,.slice p.aa mono.length p.ac] 57)) W -> Below wr.heap.size wr W:=fun W hW=>bth hwa hW
   clear hwa;revert d0 d1 d2 d3 hx hw2 hwb;generalize wr.alloc (.cells #[.bool neg,.slice p.na num.length p.nc,.slice p.da den.length p.dc,.slice p.aa mono.length p.ac] 57) = w2;intro d0 d1 d2 d3 hx hw2 hwb;have s0:Below w2.heap.size w2 w2.drew:=brf.drew;have k0:=held (hx.cell 0); have k1:=held (hx.cell 1); have k2:=held (hx.cell 2); have k3:=held (hx.cell 3)
   cases hr:Rt.right ⟨neg,num,den⟩ with
   | false =>
    rw [hr] at CR;obtain rfl:res = false:=by rw [<- HRES.out]; exact polyB_bad hlt (badAt_term HT.out (okT_coef hr))
    clear hr;refine wp_region_mixM (S:=Below w2.heap.size w2) [(0,.q),(1,.q),(2,.l),(3,.q),(4,.q),(5,.q),(6,.q),(7,.l),(8,.q),(9,.q),(10,.q),(11,.q),(12,.q),(13,.l),(14,.q),(15,.q),(16,.q),(17,.q),(18,.q),(19,.q),(20,.q),(21,.q),(22,.q),(23,.q),(24,.q),(25,.q),(26,.t),(27,.p),(28,.p),(29,.p)] (by kernel_rfl) (by kernel_rfl) (by kernel_rfl) (fun d _ _ _ _ h=>by cases d <;> exact h) (s0) ?_
    iterate 2 (refine wpMix_q rfl rfl (fun K hK=>?_); apply Exists.intro; refine ⟨fun w' hw'=>?_,?_⟩; (focus (go_simp; try rfl)); go_simp; refine hK _ _ ?_; clear hK K)
    refine wpMix_l rfl rfl (fun K hK=>?_);go_simp;refine (CR.out _ (hwb _ s0)).mono ?_;rintro r w3 ⟨rfl,hb3⟩;dsimp only;refine hK.out _ _ (bth s0 hb3) (fun _=>?_);clear hK K;have s1:=bth s0 hb3
    iterate 2 (refine wpMix_q rfl rfl (fun K hK=>?_); apply Exists.intro; refine ⟨fun w' hw'=>?_,?_⟩; (focus (go_simp; try rfl)); go_simp; refine hK _ _ ?_; clear hK K)
    iterate 4 (refine wpMix_skip rfl rfl (fun K hK=>?_); go_simp; refine hK _ _ ?_; clear hK K)
    iterate 2 (refine wpMix_q rfl rfl (fun K hK=>?_); apply Exists.intro; refine ⟨fun w' hw'=>?_,?_⟩; (focus (go_simp; try rfl)); go_simp; refine hK _ _ ?_; clear hK K)
    iterate 4 (refine wpMix_skip rfl rfl (fun K hK=>?_); go_simp; refine hK _ _ ?_; clear hK K)
    iterate 2 (refine wpMix_q rfl rfl (fun K hK=>?_); apply Exists.intro; refine ⟨fun w' hw'=>?_,?_⟩; (focus (go_simp; try rfl)); go_simp; refine hK _ _ ?_; clear hK K)
    iterate 12 (refine wpMix_skip rfl rfl (fun K hK=>?_); go_simp; refine hK _ _ ?_; clear hK K)
    iterate 1 (refine wpMix_p rfl rfl (fun K hK=>?_); apply Exists.intro; refine ⟨fun w'=>?_,?_⟩; (focus (go_simp; try rfl)); go_simp; refine hK _ _ ?_; clear hK K)
    refine wpMix_nil ?_;go_wp2;go_ret;exact ⟨rfl,bth hw2 s1⟩
   | true =>
    rw [hr] at CR;have hden:=right_den hr;have h0:val den ≠ 0:=right_pos hr;have CS:=fun W (hW:Below wr.heap.size wr W)=>qsign_any neg num den (val num) p.na p.da p.nc p.dc W (HP2.out.ext (xbw hW)) (HP3.out.ext (xbw hW)) rfl h0 HTQ.out.1 HTQ.out.2
    have CM:=fun W (hW:Below wr.heap.size wr W)=>monoP_any mono p.aa p.ac W (HP1.out.ext (xbw hW))
    have hsg:=sgnZ_eq neg (val num);have HR:=Hd hr;clear hden h0 hr;by_cases hn0:val num = 0
    ·
     rw [decide_eq_true hn0] at hsg;obtain rfl:res = false:=by rw [<- HRES.out]; exact polyB_bad hlt (badAt_term HT.out (okT_zero hn0))
     revert CS hsg;generalize sgnZ neg (val num) = sg;intro CS hsg;replace CS:=Hd CS; replace CM:=Hd CM;clear hn0;refine wp_region_mixM (S:=Below w2.heap.size w2) [(0,.q),(1,.q),(2,.l),(3,.q),(4,.q),(5,.q),(6,.q),(7,.l),(8,.q),(9,.q),(10,.q),(11,.q),(12,.q),(13,.l),(14,.q),(15,.q),(16,.q),(17,.q),(18,.q),(19,.q),(20,.q),(21,.q),(22,.q),(23,.q),(24,.q),(25,.q),(26,.t),(27,.p),(28,.p),(29,.p)] (by kernel_rfl) (by kernel_rfl) (by kernel_rfl) (fun d _ _ _ _ h=>by cases d <;> exact h) (s0) ?_
     iterate 2 (refine wpMix_q rfl rfl (fun K hK=>?_); apply Exists.intro; refine ⟨fun w' hw'=>?_,?_⟩; (focus (go_simp; try rfl)); go_simp; refine hK _ _ ?_; clear hK K)
     refine wpMix_l rfl rfl (fun K hK=>?_);go_simp;refine (CR.out _ (hwb _ s0)).mono ?_;rintro r w3 ⟨rfl,hb3⟩;dsimp only;refine hK.out _ _ (bth s0 hb3) (fun _=>?_);clear hK K;have s1:=bth s0 hb3
     iterate 4 (refine wpMix_q rfl rfl (fun K hK=>?_); apply Exists.intro; refine ⟨fun w' hw'=>?_,?_⟩; (focus (go_simp; try rfl)); go_simp; refine hK _ _ ?_; clear hK K)
     refine wpMix_l rfl rfl (fun K hK=>?_);go_simp;refine (CS.out _ (hwb _ s1)).mono ?_;rintro r w4 ⟨rfl,hb4⟩;dsimp only;refine hK.out _ _ (bth s1 hb4) (fun _=>?_);clear hK K;have s2:=bth s1 hb4
     iterate 3 (refine wpMix_q rfl rfl (fun K hK=>?_); apply Exists.intro; refine ⟨fun w' hw'=>?_,?_⟩; (focus (go_simp; try rfl)); go_simp; refine hK _ _ ?_; clear hK K)
     iterate 4 (refine wpMix_skip rfl rfl (fun K hK=>?_); go_simp; refine hK _ _ ?_; clear hK K)
     iterate 2 (refine wpMix_q rfl rfl (fun K hK=>?_); apply Exists.intro; refine ⟨fun w' hw'=>?_,?_⟩; (focus (go_simp; try rfl)); go_simp; refine hK _ _ ?_; clear hK K)
     iterate 12 (refine wpMix_skip rfl rfl (fun K hK=>?_); go_simp; refine hK _ _ ?_; clear hK K)
     iterate 1 (refine wpMix_p rfl rfl (fun K hK=>?_); apply Exists.intro; refine ⟨fun w'=>?_,?_⟩; (focus (go_simp; try rfl)); go_simp; refine hK _ _ ?_; clear hK K)
     refine wpMix_nil ?_;go_wp2;go_ret;exact ⟨rfl,bth hw2 s2⟩
    ·
     rw [decide_eq_false hn0] at hsg;have HN0:=Hd hn0;revert CS hsg;generalize sgnZ neg (val num) = sg;intro CS hsg;replace CS:=Hd CS;clear hn0
     cases hm:monoB mono with
     | false =>
      rw [hm] at CM;replace CM:=Hd CM;obtain rfl:res = false:=by rw [<- HRES.out]; exact polyB_bad hlt (badAt_term HT.out (okT_mono hm))
      clear hm;refine wp_region_mixM (S:=Below w2.heap.size w2) [(0,.q),(1,.q),(2,.l),(3,.q),(4,.q),(5,.q),(6,.q),(7,.l),(8,.q),(9,.q),(10,.q),(11,.q),(12,.q),(13,.l),(14,.q),(15,.q),(16,.q),(17,.q),(18,.q),(19,.q),(20,.q),(21,.q),(22,.q),(23,.q),(24,.q),(25,.q),(26,.t),(27,.p),(28,.p),(29,.p)] (by kernel_rfl) (by kernel_rfl) (by kernel_rfl) (fun d _ _ _ _ h=>by cases d <;> exact h) (s0) ?_
      iterate 2 (refine wpMix_q rfl rfl (fun K hK=>?_); apply Exists.intro; refine ⟨fun w' hw'=>?_,?_⟩; (focus (go_simp; try rfl)); go_simp; refine hK _ _ ?_; clear hK K)
      refine wpMix_l rfl rfl (fun K hK=>?_);go_simp;refine (CR.out _ (hwb _ s0)).mono ?_;rintro r w3 ⟨rfl,hb3⟩;dsimp only;refine hK.out _ _ (bth s0 hb3) (fun _=>?_);clear hK K;have s1:=bth s0 hb3
      iterate 4 (refine wpMix_q rfl rfl (fun K hK=>?_); apply Exists.intro; refine ⟨fun w' hw'=>?_,?_⟩; (focus (go_simp; try rfl)); go_simp; refine hK _ _ ?_; clear hK K)
      refine wpMix_l rfl rfl (fun K hK=>?_);go_simp;refine (CS.out _ (hwb _ s1)).mono ?_;rintro r w4 ⟨rfl,hb4⟩;dsimp only;refine hK.out _ _ (bth s1 hb4) (fun _=>?_);clear hK K;have s2:=bth s1 hb4
      iterate 5 (refine wpMix_q rfl rfl (fun K hK=>?_); apply Exists.intro; refine ⟨fun w' hw'=>?_,?_⟩; (focus (go_simp; try rfl)); go_simp; refine hK _ _ ?_; clear hK K)
      refine wpMix_l rfl rfl (fun K hK=>?_);go_simp;refine (CM.out _ (hwb _ s2)).mono ?_;rintro r w5 ⟨rfl,rfl⟩;dsimp only;refine hK.out _ _ (s2) (fun _=>?_);clear hK K
      iterate 3 (refine wpMix_q rfl rfl (fun K hK=>?_); apply Exists.intro; refine ⟨fun w' hw'=>?_,?_⟩; (focus (go_simp; try rfl)); go_simp; refine hK _ _ ?_; clear hK K)
      iterate 12 (refine wpMix_skip rfl rfl (fun K hK=>?_); go_simp; refine hK _ _ ?_; clear hK K)
      iterate 1 (refine wpMix_p rfl rfl (fun K hK=>?_); apply Exists.intro; refine ⟨fun w'=>?_,?_⟩; (focus (go_simp; try rfl)); go_simp; refine hK _ _ ?_; clear hK K)
      refine wpMix_nil ?_;go_wp2;go_ret;exact ⟨rfl,bth hw2 s2⟩
     | true =>
      rw [hm] at CM;replace CM:=Hd CM;have hok:okT ⟨⟨neg,num,den⟩,mono⟩ = true:=okT_all HR.out HN0.out hm;have HOK:=Hd hok;clear hm hok
      cases k with
      | zero =>
       have hbad:=badAt_zero HT.out HOK.out;have HB:=Hd hbad;clear hbad;refine wp_region_mixM (S:=Below w2.heap.size w2) [(0,.q),(1,.q),(2,.l),(3,.q),(4,.q),(5,.q),(6,.q),(7,.l),(8,.q),(9,.q),(10,.q),(11,.q),(12,.q),(13,.l),(14,.q),(15,.q),(16,.q),(17,.q),(18,.q),(19,.q),(20,.q),(21,.q),(22,.q),(23,.q),(24,.q),(25,.q),(26,.t),(27,.p),(28,.p),(29,.p)] (by kernel_rfl) (by kernel_rfl) (by kernel_rfl) (fun d _ _ _ _ h=>by cases d <;> exact h) (s0) ?_
       iterate 2 (refine wpMix_q rfl rfl (fun K hK=>?_); apply Exists.intro; refine ⟨fun w' hw'=>?_,?_⟩; (focus (go_simp; try rfl)); go_simp; refine hK _ _ ?_; clear hK K)
       refine wpMix_l rfl rfl (fun K hK=>?_);go_simp;refine (CR.out _ (hwb _ s0)).mono ?_;rintro r w3 ⟨rfl,hb3⟩;dsimp only;refine hK.out _ _ (bth s0 hb3) (fun _=>?_);clear hK K;have s1:=bth s0 hb3
       iterate 4 (refine wpMix_q rfl rfl (fun K hK=>?_); apply Exists.intro; refine ⟨fun w' hw'=>?_,?_⟩; (focus (go_simp; try rfl)); go_simp; refine hK _ _ ?_; clear hK K)
       refine wpMix_l rfl rfl (fun K hK=>?_);go_simp;refine (CS.out _ (hwb _ s1)).mono ?_;rintro r w4 ⟨rfl,hb4⟩;dsimp only;refine hK.out _ _ (bth s1 hb4) (fun _=>?_);clear hK K;have s2:=bth s1 hb4
       iterate 5 (refine wpMix_q rfl rfl (fun K hK=>?_); apply Exists.intro; refine ⟨fun w' hw'=>?_,?_⟩; (focus (go_simp; try rfl)); go_simp; refine hK _ _ ?_; clear hK K)
       refine wpMix_l rfl rfl (fun K hK=>?_);go_simp;refine (CM.out _ (hwb _ s2)).mono ?_;rintro r w5 ⟨rfl,rfl⟩;dsimp only;refine hK.out _ _ (s2) (fun _=>?_);clear hK K
       iterate 6 (refine wpMix_q rfl rfl (fun K hK=>?_); apply Exists.intro; refine ⟨fun w' hw'=>?_,?_⟩; (focus (go_simp; try rfl)); go_simp; refine hK _ _ ?_; clear hK K)
       iterate 8 (refine wpMix_skip rfl rfl (fun K hK=>?_); go_simp; refine hK _ _ ?_; clear hK K)
       iterate 2 (refine wpMix_p rfl rfl (fun K hK=>?_); apply Exists.intro; refine ⟨fun w'=>?_,?_⟩; (focus (go_simp; try rfl)); go_simp; refine hK _ _ ?_; clear hK K)
       refine wpMix_nil ?_;go_wp2;go_roundg (gk - 1)
       case rel=>exact ⟨1,by have:=HKG.out; omega,by go_num,bth hw2 s2,all_succ HA.out HB.out⟩
       case measure=>have:=HKG.out; omega
      | succ j =>
       obtain ⟨s,hs⟩:=get_of_lt (xs:=l) (k:=j) (by omega);obtain ⟨b',off',hao,p',hC',hP'⟩:=HPR.out.2.2 j s hs;injection hao with hao
       injection hao with hao1 hao2
       subst hao1 hao2;obtain ⟨c0,c1,c2,c3⟩:=hC';have hbad:=badAt_succ HT.out hs HOK.out;have HB:=Hd hbad;have e0:=fun W (hW:Below w2.heap.size w2 W)=>xbw (hwb W hW) _ _ c0
       have e1:=fun W (hW:Below w2.heap.size w2 W)=>xbw (hwb W hW) _ _ c1
       have e2:=fun W (hW:Below w2.heap.size w2 W)=>xbw (hwb W hW) _ _ c2
       have e3:=fun W (hW:Below w2.heap.size w2 W)=>xbw (hwb W hW) _ _ c3
       have CL:=fun W (hW:Below wr.heap.size wr W)=>lex_any s ⟨⟨neg,num,den⟩,mono⟩ p' p W (hP'.1.ext (xbw hW)) (HP1.out.ext (xbw hW))
       unfold Trm.val at CL;dsimp only at CL hbad;revert CL hbad;generalize lexI s.mono mono = lx;intro hbad CL;have hwk:IntKind.i64.wrap (j:Int) = (j:Int):=by rw [IntKind.wrap_i64]; omega
       replace CL:=Hd CL;have HBD:=Hd hbad;have hjl:j < l.length:=by omega
       clear hbad HB hP' hs c0 c1 c2 c3;by_cases hlx:lx <= 0
       ·
        have hle:decide (lx <= 0) = true:=by simpa using hlx
        obtain rfl:res = false:=by rw [<- HRES.out]; exact polyB_bad hlt (HBD.out.trans hle)
        clear hlx HBD;refine wp_region_mixM (S:=Below w2.heap.size w2) [(0,.q),(1,.q),(2,.l),(3,.q),(4,.q),(5,.q),(6,.q),(7,.l),(8,.q),(9,.q),(10,.q),(11,.q),(12,.q),(13,.l),(14,.q),(15,.q),(16,.q),(17,.q),(18,.q),(19,.q),(20,.q),(21,.q),(22,.q),(23,.q),(24,.q),(25,.q),(26,.t),(27,.p),(28,.p),(29,.p)] (by kernel_rfl) (by kernel_rfl) (by kernel_rfl) (fun d _ _ _ _ h=>by cases d <;> exact h) (s0) ?_
        iterate 2 (refine wpMix_q rfl rfl (fun K hK=>?_); apply Exists.intro; refine ⟨fun w' hw'=>?_,?_⟩; (focus (go_simp; try rfl)); go_simp; refine hK _ _ ?_; clear hK K)
        refine wpMix_l rfl rfl (fun K hK=>?_);go_simp;refine (CR.out _ (hwb _ s0)).mono ?_;rintro r w3 ⟨rfl,hb3⟩;dsimp only;refine hK.out _ _ (bth s0 hb3) (fun _=>?_);clear hK K;have s1:=bth s0 hb3
        iterate 4 (refine wpMix_q rfl rfl (fun K hK=>?_); apply Exists.intro; refine ⟨fun w' hw'=>?_,?_⟩; (focus (go_simp; try rfl)); go_simp; refine hK _ _ ?_; clear hK K)
        refine wpMix_l rfl rfl (fun K hK=>?_);go_simp;refine (CS.out _ (hwb _ s1)).mono ?_;rintro r w4 ⟨rfl,hb4⟩;dsimp only;refine hK.out _ _ (bth s1 hb4) (fun _=>?_);clear hK K;have s2:=bth s1 hb4
        iterate 5 (refine wpMix_q rfl rfl (fun K hK=>?_); apply Exists.intro; refine ⟨fun w' hw'=>?_,?_⟩; (focus (go_simp; try rfl)); go_simp; refine hK _ _ ?_; clear hK K)
        refine wpMix_l rfl rfl (fun K hK=>?_);go_simp;refine (CM.out _ (hwb _ s2)).mono ?_;rintro r w5 ⟨rfl,rfl⟩;dsimp only;refine hK.out _ _ (s2) (fun _=>?_);clear hK K
        iterate 12 (refine wpMix_q rfl rfl (fun K hK=>?_); apply Exists.intro; refine ⟨fun w' hw'=>?_,?_⟩; (focus (go_simp; try rfl)); go_simp; refine hK _ _ ?_; clear hK K)
        refine wpMix_t rfl rfl (fun K hK=>?_);go_simp;refine (CL.out _ (hwb _ s2)).mono ?_;rintro r w6 ⟨rfl,hb6⟩;dsimp only;refine hK.out _ _ ?_;clear hK K;have s3:=bth s2 hb6
        iterate 3 (refine wpMix_p rfl rfl (fun K hK=>?_); apply Exists.intro; refine ⟨fun w'=>?_,?_⟩; (focus (go_simp; try rfl)); go_simp; refine hK _ _ ?_; clear hK K)
        refine wpMix_nil ?_;go_wp2;go_ret;exact ⟨rfl,bth hw2 s3⟩
       ·
        have hle:decide (lx <= 0) = false:=by simpa using hlx
        have HB:=Hd (HBD.out.trans hle);clear hlx HBD;refine wp_region_mixM (S:=Below w2.heap.size w2) [(0,.q),(1,.q),(2,.l),(3,.q),(4,.q),(5,.q),(6,.q),(7,.l),(8,.q),(9,.q),(10,.q),(11,.q),(12,.q),(13,.l),(14,.q),(15,.q),(16,.q),(17,.q),(18,.q),(19,.q),(20,.q),(21,.q),(22,.q),(23,.q),(24,.q),(25,.q),(26,.t),(27,.p),(28,.p),(29,.p)] (by kernel_rfl) (by kernel_rfl) (by kernel_rfl) (fun d _ _ _ _ h=>by cases d <;> exact h) (s0) ?_
        iterate 2 (refine wpMix_q rfl rfl (fun K hK=>?_); apply Exists.intro; refine ⟨fun w' hw'=>?_,?_⟩; (focus (go_simp; try rfl)); go_simp; refine hK _ _ ?_; clear hK K)
        refine wpMix_l rfl rfl (fun K hK=>?_);go_simp;refine (CR.out _ (hwb _ s0)).mono ?_;rintro r w3 ⟨rfl,hb3⟩;dsimp only;refine hK.out _ _ (bth s0 hb3) (fun _=>?_);clear hK K;have s1:=bth s0 hb3
        iterate 4 (refine wpMix_q rfl rfl (fun K hK=>?_); apply Exists.intro; refine ⟨fun w' hw'=>?_,?_⟩; (focus (go_simp; try rfl)); go_simp; refine hK _ _ ?_; clear hK K)
        refine wpMix_l rfl rfl (fun K hK=>?_);go_simp;refine (CS.out _ (hwb _ s1)).mono ?_;rintro r w4 ⟨rfl,hb4⟩;dsimp only;refine hK.out _ _ (bth s1 hb4) (fun _=>?_);clear hK K;have s2:=bth s1 hb4
        iterate 5 (refine wpMix_q rfl rfl (fun K hK=>?_); apply Exists.intro; refine ⟨fun w' hw'=>?_,?_⟩; (focus (go_simp; try rfl)); go_simp; refine hK _ _ ?_; clear hK K)
        refine wpMix_l rfl rfl (fun K hK=>?_);go_simp;refine (CM.out _ (hwb _ s2)).mono ?_;rintro r w5 ⟨rfl,rfl⟩;dsimp only;refine hK.out _ _ (s2) (fun _=>?_);clear hK K
        iterate 12 (refine wpMix_q rfl rfl (fun K hK=>?_); apply Exists.intro; refine ⟨fun w' hw'=>?_,?_⟩; (focus (go_simp; try rfl)); go_simp; refine hK _ _ ?_; clear hK K)
        refine wpMix_t rfl rfl (fun K hK=>?_);go_simp;refine (CL.out _ (hwb _ s2)).mono ?_;rintro r w6 ⟨rfl,hb6⟩;dsimp only;refine hK.out _ _ ?_;clear hK K;have s3:=bth s2 hb6
        iterate 3 (refine wpMix_p rfl rfl (fun K hK=>?_); apply Exists.intro; refine ⟨fun w'=>?_,?_⟩; (focus (go_simp; try rfl)); go_simp; refine hK _ _ ?_; clear hK K)
        refine wpMix_nil ?_;go_wp2;go_roundg (gk - 1)
        case rel=>exact ⟨j + 1 + 1,by have:=HKG.out; omega,by go_num,bth hw2 s3,all_succ HA.out HB.out⟩
        case measure=>have:=HKG.out; omega
  ·
   obtain rfl:res = true:=by rw [<- HRES.out]; exact polyB_good fun i hi=>HA.out i (by omega)
   go_wp2;go_ret;exact ⟨rfl,hwr⟩
def strC (s:ByteArray):List Value:=[.string s]
def intC (x:Int):List Value:=[.int .i64 x]
theorem strC_len (s:ByteArray):(strC s).length = 1:=rfl
theorem intC_len (s:Int):(intC s).length = 1:=rfl
theorem strC_one (s:ByteArray):∀ u ∈ strC s,u.oneCell' = true:=by simp [strC,Value.oneCell']
theorem intC_one (s:Int):∀ u ∈ intC s,u.oneCell' = true:=by simp [intC,Value.oneCell']
theorem strC_cell {w:World} {b:Nat} {s:ByteArray} (h:w.cell? ⟨b,0,none⟩ = some (.string s)):∀ j u,(strC s)[j]? = some u -> w.cell? ⟨b,j,none⟩ = some u:=by
 intro j u hu
 match j,hu with
 | 0,hu=>simp [strC] at hu; subst hu; exact h
theorem intC_cell {w:World} {b:Nat} {s:Int} (h:w.cell? ⟨b,0,none⟩ = some (.int .i64 s)):∀ j u,(intC s)[j]? = some u -> w.cell? ⟨b,j,none⟩ = some u:=by
 intro j u hu
 match j,hu with
 | 0,hu=>simp [intC] at hu; subst hu; exact h
abbrev OwnS (B:Nat) (w:World) (a:Option Addr) (c:Nat) (l:List ByteArray):Prop:=Own strC 1 9 B w a c l
abbrev OwnI (B:Nat) (w:World) (a:Option Addr) (c:Nat) (l:List Int):Prop:=Own intC 1 3 B w a c l
theorem infoS:(Tryz.prog.info? 9).map (fun i=>(i.zero,i.size,i.bytes)) = some (some (.string ⟨#[]⟩),1,16):=by kernel_rfl
theorem infoI:(Tryz.prog.info? 3).map (fun i=>(i.zero,i.size,i.bytes)) = some (some (.int .i64 0),1,8):=by kernel_rfl
section
variable {B : Nat} {w : World} {a : Option Addr} {c : Nat}
theorem OwnS.reads1 {l:List ByteArray} (h:OwnS B w a c l):StrsR w a c l :=
 Own.reads strC_len h fun g o x hx hc=>show w.cell? _ = _ by simpa using hc 0 _ rfl
theorem OwnI.reads1 {l:List Int} (h:OwnI B w a c l) (hs:∀ s ∈ l,InInt s):IntsR w a c l :=
 Own.reads intC_len h fun g o x hx hc=>⟨by simpa using hc 0 _ rfl,wf_of (hs x hx)⟩
end
theorem append_str {B:Nat} {w:World} {l:List ByteArray} {ops:Array Oper} {rest:List Oper} {o:Oper} {act:Act} {Q:Exit -> Act -> World -> Prop} (hgd:o.guard = none) (s y:Operand)
  (ho:o.op = .call { callee:=.builtin .append,args:=#[s,y],argTypes:=#[24,24] })
  (a:Option Addr) (c:Nat) (hs:act.eval s = .slice a l.length c) (hown:OwnS B w a c l)
  (x:ByteArray) (b c1:Nat) (hy:act.eval y = .slice (some ⟨b,0,none⟩) 1 c1) (hcell:w.cell? ⟨b,0,none⟩ = some (.string x))
  (l2:List ByteArray) (hl2:l2 = l ++ [x]) (hlen:l2.length <= 16777216) (hB:B <= w.heap.size)
  (h:∀ a' c' w',OwnS B w' a' c' l2 -> w.grownBy w' (Value.ownBlock (.slice a l.length c)) -> ((∃ g,a' = some ⟨g,0,none⟩ /\ (a = some ⟨g,0,none⟩ \/ g = w.heap.size))) ->
   wpList Tryz.prog ops Q rest (act.put o.dst (.slice a' l2.length c')) w'):wpList Tryz.prog ops Q (o :: rest) act w :=
 wpList_append_1 hgd s y 24 ho Tryz.underlying24 infoS rfl (by omega) (by omega) strC_len a c hs hown x (strC_one x) b c1 hy (strC_cell hcell) l2 hl2 hlen hB h
theorem append_int {B:Nat} {w:World} {l:List Int} {ops:Array Oper} {rest:List Oper} {o:Oper} {act:Act} {Q:Exit -> Act -> World -> Prop} (hgd:o.guard = none) (s y:Operand)
  (ho:o.op = .call { callee:=.builtin .append,args:=#[s,y],argTypes:=#[38,38] })
  (a:Option Addr) (c:Nat) (hs:act.eval s = .slice a l.length c) (hown:OwnI B w a c l)
  (x:Int) (b c1:Nat) (hy:act.eval y = .slice (some ⟨b,0,none⟩) 1 c1) (hcell:w.cell? ⟨b,0,none⟩ = some (.int .i64 x))
  (l2:List Int) (hl2:l2 = l ++ [x]) (hlen:l2.length <= 16777216) (hB:B <= w.heap.size)
  (h:∀ a' c' w',OwnI B w' a' c' l2 -> w.grownBy w' (Value.ownBlock (.slice a l.length c)) -> ((∃ g,a' = some ⟨g,0,none⟩ /\ (a = some ⟨g,0,none⟩ \/ g = w.heap.size))) ->
   wpList Tryz.prog ops Q rest (act.put o.dst (.slice a' l2.length c')) w'):wpList Tryz.prog ops Q (o :: rest) act w :=
 wpList_append_1 hgd s y 38 ho Tryz.underlying38 infoI rfl (by omega) (by omega) intC_len a c hs hown x (intC_one x) b c1 hy (intC_cell hcell) l2 hl2 hlen hB h
section
variable {α : Type} {f : α -> List Value} {sz : Nat} {t : TypeId} {B : Nat} {w : World} {l : List α} {P : Program}
theorem wp_append_n {o:Oper} {act:Act} {K:Act -> World -> Prop} {Q:Exit -> Act -> World -> Prop} (s y:Operand) (ts:TypeId)
  (ho:o.op = .call { callee:=.builtin .append,args:=#[s,y],argTypes:=#[ts,ts] })
  {z:Value} {bytes:Nat} (ht:P.underlying ts = some (.slice t)) (hi:(P.info? t).map (fun i=>(i.zero,i.size,i.bytes)) = some (some z,sz,bytes)) (hz:z.cells.size = sz) (hsz:0 < sz) (hby:bytes <= 1024)
  (hf:∀ x,(f x).length = sz) (a:Option Addr) (c:Nat) (hs:act.eval s = .slice a l.length c) (hown:Own f sz t B w a c l)
  (m:List α) (hm:m ≠ []) (hone:∀ u ∈ m.flatMap f,u.oneCell' = true) (p:Addr) (c1:Nat) (hy:act.eval y = .slice (some p) m.length c1) (hcell:∀ j u,(m.flatMap f)[j]? = some u -> w.cell? (p.add j) = some u)
  (l2:List α) (hl2:l2 = l ++ m) (hlen:l2.length <= 16777216) (hB:B <= w.heap.size)
  (h:∀ a' c' w',Own f sz t B w' a' c' l2 -> w.grownBy w' (Value.ownBlock (.slice a l.length c)) -> ((∃ g,a' = some ⟨g,0,none⟩ /\ (a = some ⟨g,0,none⟩ \/ g = w.heap.size))) ->
   K (act.put o.dst (.slice a' l2.length c')) w'):o.wp P act w K Q:=by
 subst hl2;obtain ⟨i,hi0,hz0,hz1,hz2⟩:=info_parts hi;simp only [List.length_append] at hlen;have hml:0 < m.length:=List.length_pos_iff.2 hm;have hfl:(m.flatMap f).length = m.length * sz:=by
  clear hone hcell hm hy hlen hml h
  induction m with
  | nil=>simp
  | cons x m ih=>simp only [List.flatMap_cons,List.length_append,List.length_cons,ih,hf,Nat.add_mul]; omega
 obtain ⟨v',w',hr,h2,h3,_,h5⟩:=run_append_own_at (P:=P) w B ts o.type t i z sz bytes ht hi0 hz0 hz1 hz2 hz hsz (.slice a l.length c) l.length (l.flatMap f) hown p m.length c1 (m.flatMap f) hfl
  hcell hone (by unfold maxLen; omega)
  (by have : (l.length + m.length) * bytes <= 16777216 * 1024 := Nat.mul_le_mul hlen hby
      omega) hB
 unfold Oper.wp execOp;simp only [ho,resolve,invoke,builtin,Sem.run_bind,Sem.run_pure,Result.andThen_ok,List.map_toArray,List.map_cons,List.map_nil,hs,hy,hr];have hf2:(l ++ m).flatMap f = l.flatMap f ++ m.flatMap f:=by simp
 have hn:(l ++ m).length = l.length + m.length:=by simp
 obtain ⟨g,cap,hv,hb,hlt⟩:=h2.form (by omega);subst hv;rw [<- hn];refine h _ _ w' (by unfold Own; rw [hf2,hn]; exact h2) h3 ⟨g,rfl,?_⟩;rcases h5 with h5 | h5
 ·
  left
  cases a with
  | none=>simp [Value.ownBlock] at h5
  | some g' =>
   have hg':g = g'.block:=by simpa [Value.ownBlock] using h5
   rcases hown.2 with ⟨e,_⟩ | ⟨g2,_,_,e,_⟩
   · cases e
   ·
    injection e with e1
    injection e1 with e1
    subst e1;simp at hg';rw [hg']
 ·
  right;simpa [Value.ownBlock] using h5
theorem wp_append_0 {o:Oper} {act:Act} {K:Act -> World -> Prop} {Q:Exit -> Act -> World -> Prop} (s y:Operand) (ts:TypeId)
  (ho:o.op = .call { callee:=.builtin .append,args:=#[s,y],argTypes:=#[ts,ts] })
  (ht:P.underlying ts = some (.slice t)) {i:TypeInfo} (hi:P.info? t = some i)
  (a:Option Addr) (n c:Nat) (hnc:n <= c) (hs:act.eval s = .slice a n c) (b:Option Addr) (c1:Nat) (hy:act.eval y = .slice b 0 c1)
  (h:K (act.put o.dst (.slice a n c)) w):o.wp P act w K Q:=by
 have hsrc:Src P i.size ts (.slice b 0 c1) 0 [] w:=by
  cases b with
  | none=>exact Src.ofNil w ht c1
  | some p=>exact Src.ofSlice w ht p 0 c1 [] (by simp) (fun j u hu=>by simp at hu) (fun u hu=>by cases hu)
 have hr:=run_append_nothing (P:=P) w ts ts o.type t i ht hi a n c hnc _ hsrc;unfold Oper.wp execOp;simp only [ho,resolve,invoke,builtin,Sem.run_bind,Sem.run_pure,Result.andThen_ok,List.map_toArray,List.map_cons,List.map_nil,hs,hy,hr];exact h
end
def FineT (u:Tm):Prop:=Mok 1048576 u.2 /\ u.1 ≠ 0 /\ qsz u.1 <= 1000
def FineP (p:List Tm):Prop:=p.length <= 100000 /\ ∀ u ∈ p,FineT u
structure TQ where
 x:QA
 n:Nat
 a:Option Addr
 c:Nat
def TQ.cs (t:TQ):List Value:=[.bool t.x.neg,.slice t.x.a t.x.n t.x.c,.slice t.x.b t.x.m t.x.d,.slice t.a t.n t.c]
theorem TQ.cs_len (t:TQ):t.cs.length = 4:=rfl
theorem TQ.cs_one (t:TQ):∀ u ∈ t.cs,u.oneCell' = true:=by simp [TQ.cs,Value.oneCell']
def TQ.R (t:TQ) (u:Tm) (V:World):Prop:=QAc V t.x u.1 /\ IntsR V t.a t.c u.2 /\ t.n = u.2.length
theorem TQ.R.qk {t:TQ} {u:Tm} {V:World} (h:t.R u V) (hf:FineT u):QK 1000 V t.x u.1:=⟨h.1,hf.2.2⟩
def TQ.At (t:TQ) (V:World) (b o:Nat):Prop:=V.cell? ⟨b,o,none⟩ = some (.bool t.x.neg) /\ V.cell? ⟨b,o + 1,none⟩ = some (.slice t.x.a t.x.n t.x.c) /\ V.cell? ⟨b,o + 2,none⟩ = some (.slice t.x.b t.x.m t.x.d) /\ V.cell? ⟨b,o + 3,none⟩ = some (.slice t.a t.n t.c)
theorem TQ.at_of {t:TQ} {V:World} {b o:Nat} (h:∀ j v,t.cs[j]? = some v -> V.cell? ⟨b,o + j,none⟩ = some v):t.At V b o:=⟨by simpa using h 0 _ rfl,h 1 _ rfl,h 2 _ rfl,h 3 _ rfl⟩
theorem TQ.At.cs {t:TQ} {V:World} {b o:Nat} (h:t.At V b o):∀ j v,t.cs[j]? = some v -> V.cell? ⟨b,o + j,none⟩ = some v:=fun j v hj=>by
 match j,hj with
 | 0,hj=>simp [TQ.cs] at hj; subst hj; exact h.1
 | 1,hj=>simp [TQ.cs] at hj; subst hj; exact h.2.1
 | 2,hj=>simp [TQ.cs] at hj; subst hj; exact h.2.2.1
 | 3,hj=>simp [TQ.cs] at hj; subst hj; exact h.2.2.2
 | j + 4,hj=>simp [TQ.cs] at hj
def AllT (X:Nat -> Prop) (w:World) (l:List TQ) (p:List Tm):Prop:=l.length = p.length /\ ∀ (k:Nat) (t:TQ) (u:Tm),l[k]? = some t -> p[k]? = some u -> Rd X w (t.R u)
def RowT (a:Option Addr) (c:Nat) (l:List TQ) (V:World):Prop:=SlR 4 (fun V b o (t:TQ)=>t.At V b o) V a c l
def PolX (X:Nat -> Prop) (w:World) (a:Option Addr) (c:Nat) (p:List Tm):Prop:=∃ l:List TQ,Rd X w (RowT a c l) /\ AllT X w l p
section
variable {X Y : Nat -> Prop} {w w' : World} {a : Option Addr} {c : Nat} {p q : List Tm} {l l' : List TQ}
theorem AllT.nil:AllT X w [] []:=⟨rfl,fun k t u h=>by simp at h⟩
theorem AllT.map (h:AllT X w l p) (e:∀ t u,Rd X w (TQ.R t u) -> Rd Y w' (TQ.R t u)):AllT Y w' l p:=⟨h.1,fun k t u h1 h2=>e _ _ (h.2 k t u h1 h2)⟩
theorem AllT.step (h:AllT X w l p) (e:Agr X w w'):AllT X w' l p:=h.map fun _ _ k=>k.step e
theorem AllT.call (h:AllT X w l p) (e:Below w.heap.size w w'):AllT X w' l p:=h.map fun _ _ k=>k.call e
theorem AllT.append (h:AllT X w l p) (k:AllT X w l' q):AllT X w (l ++ l') (p ++ q):=⟨by rw [List.length_append,List.length_append,h.1,k.1],fun i t u h1 h2=>by
 rcases Nat.lt_or_ge i l.length with e | e
 ·
  rw [List.getElem?_append_left e] at h1;rw [List.getElem?_append_left (by rw [<- h.1]; exact e)] at h2;exact h.2 i t u h1 h2
 ·
  rw [List.getElem?_append_right e] at h1;rw [List.getElem?_append_right (by rw [<- h.1]; exact e),<- h.1] at h2;exact k.2 _ t u h1 h2⟩
theorem AllT.one {t:TQ} {u:Tm} (h:Rd X w (t.R u)):AllT X w [t] [u]:=⟨rfl,fun k t' u' h1 h2=>by
 cases k with
 | zero=>simp at h1 h2; subst h1 h2; exact h
 | succ k=>simp at h1⟩
theorem AllT.drop (h:AllT X w l p) (n:Nat):AllT X w (l.drop n) (p.drop n):=⟨by simp [h.1],fun k t u h1 h2=>h.2 (n + k) t u (by simpa using h1) (by simpa using h2)⟩
theorem PolX.nil:PolX X w none 0 []:=⟨[],fun _ _=>SlR.nil,AllT.nil⟩
theorem PolX.map (h:PolX X w a c p) (e:∀ R,Rd X w R -> Rd Y w' R):PolX Y w' a c p:=by
 obtain ⟨l,h1,h2⟩:=h;exact ⟨l,e _ h1,h2.map fun _ _ k=>e _ k⟩
theorem PolX.step (h:PolX X w a c p) (e:Agr X w w'):PolX X w' a c p:=h.map fun _ k=>k.step e
theorem PolX.call (h:PolX X w a c p) (e:Below w.heap.size w w'):PolX X w' a c p:=h.map fun _ k=>k.call e
theorem PolX.cap (h:PolX X w a c p):p.length <= c /\ c <= maxLen:=by
 obtain ⟨l,h1,h2⟩:=h;rw [<- h2.1];exact ⟨h1.now.1,h1.now.2.1⟩
theorem PolX.len (h:PolX X w a c p):p.length <= 9223372036854775807:=by have h1:=h.cap; unfold maxLen at h1; omega
theorem PolX.get (h:PolX X w a c p) {k:Nat} {u:Tm} (hk:p[k]? = some u):∃ (b off:Nat) (t:TQ),a = some ⟨b,off,none⟩ /\ t.At w b (off + k * 4) /\ Rd X w (t.R u):=by
 obtain ⟨l,h1,h2⟩:=h;obtain ⟨t,ht⟩:=get_of_lt (show k < l.length by have:=lt_of_get hk; rw [h2.1]; exact this);obtain ⟨b,off,ha,hA⟩:=h1.now.2.2 k t ht;exact ⟨b,off,t,ha,hA,h2.2 k t u ht hk⟩
theorem Rd.kp {R:World -> Prop} {B T:Nat} (h:Kp R B T w) (hX:∀ b,X b -> b < B \/ T <= b):Rd X w R:=fun V hV=>h V fun p v h1 h2 h3=>hV p v (fun hx=>by have:=hX _ hx; omega) h3
end
abbrev OwnT (B:Nat) (w:World) (a:Option Addr) (c:Nat) (l:List TQ):Prop:=Own TQ.cs 4 57 B w a c l
theorem infoTm:(Tryz.prog.info? 57).map (fun i=>(i.zero,i.size,i.bytes)) = some (some (.agg #[.bool false,.slice none 0 0,.slice none 0 0,.slice none 0 0]),4,80):=by kernel_rfl
def Xr (X:Nat -> Prop) (a:Option Addr):Nat -> Prop:=fun b=>X b \/ ∃ g:Addr,a = some g /\ b = g.block
section
variable {X : Nat -> Prop} {w w' w'' : World} {B : Nat} {a a' : Option Addr} {c n : Nat} {p : List Tm} {l : List TQ} {R : World -> Prop}
theorem Rd.row (h:Rd X w R) (ha:∀ g,a = some g -> w.heap.size <= g.block):Rd (Xr X a) w R:=h.more fun b hb=>by
 rcases hb with hb | ⟨g,hg,rfl⟩
 · exact .inl hb
 · exact .inr (ha g hg)
theorem Rd.app (h:Rd (Xr X a) w R) (hg:w.grownBy w' (Value.ownBlock (.slice a n c))) (ha:∃ g,a' = some ⟨g,0,none⟩ /\ (a = some ⟨g,0,none⟩ \/ g = w.heap.size)):Rd (Xr X a') w' R:=by
 obtain ⟨g,rfl,h2⟩:=ha;have h1:Rd (fun b=>Xr X a b \/ b = g) w R:=h.more fun b hb=>by
  rcases hb with hb | rfl
  · exact .inl hb
  ·
   rcases h2 with h2 | h2
   · exact .inl (.inr ⟨_,h2,rfl⟩)
   · exact .inr (by omega)
 have h3:Rd (fun b=>Xr X a b \/ b = g) w' R:=h1.step ((Agr.refl _ _).grown hg fun g hg=>.inl (.inr ⟨g,hg,rfl⟩));intro V hV;exact h3 V (hV.mono fun b hb=>by
  rcases hb with hb | ⟨g',hg',rfl⟩
  · exact .inl (.inl hb)
  ·
   injection hg' with hg'
   subst hg';exact .inr rfl)
theorem AllT.app {lo:List TQ} (h:AllT (Xr X a) w lo p) (hg:w.grownBy w' (Value.ownBlock (.slice a n c))) (ha:∃ g,a' = some ⟨g,0,none⟩ /\ (a = some ⟨g,0,none⟩ \/ g = w.heap.size)):AllT (Xr X a') w' lo p:=h.map fun _ _ k=>k.app hg ha
theorem OwnT.pol (ho:OwnT B w a c l) (hA:AllT (Xr X a) w l p) (hX:∀ b,X b -> b < B):PolX X w a c p:=by
 refine ⟨l,fun V hV=>?_,hA.map fun _ _ k=>k.less fun b hb=>.inl hb⟩;refine ho.readsX l rfl TQ.cs_len hV (fun g hg hx=>?_) fun b o k x y h1 h2 hc=>?_
 ·
  have:=hX _ hx;have:=(ho.lt hg).1
  omega
 ·
  rw [h1] at h2;injection h2 with h2
  subst h2;exact TQ.at_of hc
end
def RetP (X:Nat -> Prop) (p:List Tm) (w:World) (e:Ending) (w':World):Prop:=∃ a c,e = .returned (.slice a p.length c) /\ PolX X w' a c p /\ Below w.heap.size w w'
theorem append_tm {B:Nat} {w:World} {l:List TQ} {ops:Array Oper} {rest:List Oper} {o:Oper} {act:Act} {Q:Exit -> Act -> World -> Prop} (hgd:o.guard = none) (s y:Operand) (ts:TypeId)
  (ho:o.op = .call { callee:=.builtin .append,args:=#[s,y],argTypes:=#[ts,ts] }) (hu:Tryz.prog.underlying ts = some (.slice 57))
  (a:Option Addr) (c:Nat) (hs:act.eval s = .slice a l.length c) (hown:OwnT B w a c l)
  (x:TQ) (b c1:Nat) (hy:act.eval y = .slice (some ⟨b,0,none⟩) 1 c1) (hcell:x.At w b 0)
  (l2:List TQ) (hl2:l2 = l ++ [x]) (hlen:l2.length <= 16777216) (hB:B <= w.heap.size)
  (h:∀ a' c' w',OwnT B w' a' c' l2 -> w.grownBy w' (Value.ownBlock (.slice a l.length c)) -> ((∃ g,a' = some ⟨g,0,none⟩ /\ (a = some ⟨g,0,none⟩ \/ g = w.heap.size))) ->
   wpList Tryz.prog ops Q rest (act.put o.dst (.slice a' l2.length c')) w'):wpList Tryz.prog ops Q (o :: rest) act w :=
 wpList_append_1 hgd s y ts ho hu infoTm rfl (by omega) (by omega) TQ.cs_len a c hs hown x (TQ.cs_one x) b c1 hy (by have:=hcell.cs; simpa using this) l2 hl2 hlen hB h
theorem cs_flat (m:List TQ) (j:Nat):(m.flatMap TQ.cs)[j]? = (m[j / 4]?).bind fun t=>t.cs[j % 4]?:=by
 induction m generalizing j with
 | nil=>simp
 | cons t m ih =>
  rw [List.flatMap_cons];rcases Nat.lt_or_ge j 4 with h | h
  ·
   rw [List.getElem?_append_left (by rw [TQ.cs_len]; exact h),Nat.div_eq_of_lt h,Nat.mod_eq_of_lt h]
   rfl
  ·
   rw [List.getElem?_append_right (by rw [TQ.cs_len]; exact h),TQ.cs_len,ih];obtain ⟨k,rfl⟩:∃ k,j = k + 4:=⟨j - 4,by omega⟩
   rw [Nat.add_sub_cancel,Nat.add_div_right _ (by omega),Nat.add_mod_right]
   rfl
theorem append_tms {B:Nat} {w:World} {l:List TQ} {ops:Array Oper} {rest:List Oper} {o:Oper} {act:Act} {Q:Exit -> Act -> World -> Prop} (hgd:o.guard = none) (s y:Operand) (ts:TypeId)
  (ho:o.op = .call { callee:=.builtin .append,args:=#[s,y],argTypes:=#[ts,ts] }) (hu:Tryz.prog.underlying ts = some (.slice 57))
  (a:Option Addr) (c:Nat) (hs:act.eval s = .slice a l.length c) (hown:OwnT B w a c l) (m:List TQ) (b:Option Addr) (n c1:Nat) (hn:n = m.length) (hy:act.eval y = .slice b n c1) (hm:RowT b c1 m w)
  (l2:List TQ) (hl2:l2 = l ++ m) (hlen:l2.length <= 16777216) (hB:B <= w.heap.size)
  (h:∀ a' c' w',OwnT B w' a' c' l2 -> w.grownBy w' (Value.ownBlock (.slice a l.length c)) -> (m = [] /\ a' = a /\ w' = w \/ (∃ g,a' = some ⟨g,0,none⟩ /\ (a = some ⟨g,0,none⟩ \/ g = w.heap.size))) ->
   wpList Tryz.prog ops Q rest (act.put o.dst (.slice a' l2.length c')) w'):wpList Tryz.prog ops Q (o :: rest) act w:=by
 subst hl2 hn;refine wpList_plain hgd fun _ hK=>?_
 cases m with
 | nil =>
  obtain ⟨i,hi,_⟩:=info_parts infoTm;refine wp_append_0 s y ts ho hu hi a l.length c hown.cap.1 hs b c1 hy ?_;have:=h a c w (by simpa using hown) (World.grownBy.refl _ _) (.inl ⟨rfl,rfl,rfl⟩);simp only [List.append_nil] at this;exact hK _ _ this
 | cons x m =>
  obtain ⟨bb,off,hb,_⟩:=hm.2.2 0 x rfl;refine wp_append_n s y ts ho hu infoTm rfl (by omega) (by omega) TQ.cs_len a c hs hown (x :: m) (by simp) ?_ ⟨bb,off,none⟩ c1 (by rw [hy,hb]) ?_ _ rfl hlen hB
   fun a' c' w' h1 h2 h3=>hK _ _ (h a' c' w' h1 h2 (.inr h3))
  ·
   intro u hu;simp only [List.mem_flatMap] at hu;obtain ⟨z,_,hz⟩:=hu;exact TQ.cs_one z u hz
  ·
   intro j u hu;rw [cs_flat] at hu;obtain ⟨z,hz,hj⟩:=Option.bind_eq_some_iff.1 hu;obtain ⟨b2,off2,hb2,hc⟩:=hm.2.2 (j / 4) z hz;rw [hb] at hb2;have e1:bb = b2:=congrArg (fun o:Option Addr=>(o.getD default).block) hb2;have e2:off = off2:=congrArg (fun o:Option Addr=>(o.getD default).off) hb2;subst e1;subst e2;have:=hc.cs (j % 4) u hj;rw [Addr.add_lit]
   rwa [show off + j / 4 * 4 + j % 4 = off + j by omega] at this
def sgnQ (q:Rat):Int:=if q = 0 then 0 else if q < 0 then -1 else 1
theorem sgnZ_q (q:Rat):sgnZ (decide (q.num < 0)) q.num.natAbs = sgnQ q:=by
 unfold sgnZ sgnQ;by_cases h:q = 0
 · subst h; rfl
 ·
  have h0:q.num ≠ 0:=fun e=>h (Rat.num_eq_zero.1 e)
  rw [if_neg (by omega),if_neg h];have h2:q < 0 ↔ q.num < 0:=by rw [Rat.lt_iff]; simp
  by_cases h1:q.num < 0
  · rw [if_pos (by simpa using h1),if_pos (h2.2 h1)]
  · rw [if_neg (by simpa using h1),if_neg (fun e=>h1 (h2.1 e))]
theorem sgnQ_zero {q:Rat}:sgnQ q = 0 ↔ q = 0:=by
 unfold sgnQ;by_cases h:q = 0
 · simp [h]
 ·
  rw [if_neg h]
  constructor
  · intro e; split at e <;> omega
  · intro e; exact absurd e h
theorem sgnQ_ne (q:Rat):(sgnQ q != 0) = !decide (q = 0):=by
 by_cases h:q = 0
 · rw [sgnQ_zero.2 h]; simp [h]
 ·
  have:=fun e=>h (sgnQ_zero.1 e)
  rw [decide_eq_false h];simpa using this
theorem sgnQ_eq (q:Rat):(sgnQ q == 0) = decide (q = 0):=by
 by_cases h:q = 0
 · rw [sgnQ_zero.2 h]; simp [h]
 ·
  have:=fun e=>h (sgnQ_zero.1 e)
  rw [decide_eq_false h];simpa using this
theorem Kp.broad {R:World -> Prop} {B B' T T':Nat} {w:World} (h:Kp R B T w) (hB:B' <= B) (hT:T <= T'):Kp R B' T' w:=fun V hV=>h V fun p v h1 h2 h3=>hV p v (by omega) (by omega) h3
theorem sign_q (x:QA) (q:Rat) (k:Nat) (w:World) (H:QK k w x q) (hk:k <= 100000):Calls Tryz.prog 28 #[.agg #[.bool x.neg,.slice x.a x.n x.c,.slice x.b x.m x.d]] w fun e w'=>e = .returned (.int .i64 (sgnQ q)) /\ Below w.heap.size w w':=by
 obtain ⟨s1,n1,a1,c1,m1,b1,d1⟩:=x;obtain ⟨⟨e1,e2,e3,r1,r2⟩,z1⟩:=H;dsimp only at e1 e2 e3 r1 r2 ⊢;subst e1 e2 e3;have l1:=qsz_num q;have l2:=qsz_den q;have:=qsign_any (decide (q.num < 0)) (limbs q.num.natAbs) (limbs q.den) q.num.natAbs a1 b1 c1 d1 w r1 r2 (val_limbs _) (by rw [val_limbs]; exact q.den_nz) (by omega) (by omega)
 rwa [sgnZ_q] at this
theorem lexT_any (s t:TQ) (m n:List Int) (w:World) (h:IntsR w s.a s.c m) (h':IntsR w t.a t.c n) (hs:s.n = m.length) (ht:t.n = n.length) :
  Calls Tryz.prog 53 #[.agg #[.bool s.x.neg,.slice s.x.a s.x.n s.x.c,.slice s.x.b s.x.m s.x.d,.slice s.a s.n s.c],.agg #[.bool t.x.neg,.slice t.x.a t.x.n t.x.c,.slice t.x.b t.x.m t.x.d,.slice t.a t.n t.c]] w fun e w'=>e = .returned (.int .i64 (lexI m n)) /\ Below w.heap.size w w':=by
 have:=lex_any ⟨⟨s.x.neg,List.replicate s.x.n 0,List.replicate s.x.m 0⟩,m⟩ ⟨⟨t.x.neg,List.replicate t.x.n 0,List.replicate t.x.m 0⟩,n⟩ ⟨s.a,s.c,s.x.a,s.x.c,s.x.b,s.x.d⟩ ⟨t.a,t.c,t.x.a,t.x.c,t.x.b,t.x.d⟩ w h h';unfold Trm.val at this;simp only [List.length_replicate] at this;rw [hs,ht];exact this
theorem added_q (s t:TQ) (p q:Rat) (w:World) (h:QK 1000 w s.x p) (h':QK 1000 w t.x q) :
  Calls Tryz.prog 165 #[.agg #[.bool s.x.neg,.slice s.x.a s.x.n s.x.c,.slice s.x.b s.x.m s.x.d,.slice s.a s.n s.c],.agg #[.bool t.x.neg,.slice t.x.a t.x.n t.x.c,.slice t.x.b t.x.m t.x.d,.slice t.a t.n t.c]] w fun e w'=>∃ x:QA,e = .returned (.tuple #[.agg #[.bool x.neg,.slice x.a x.n x.c,.slice x.b x.m x.d,.slice s.a s.n s.c],.bool (!decide (p + q = 0))]) /\ Kp (fun V=>QK 2001 V x (p + q)) w.heap.size w'.heap.size w' /\ Below w.heap.size w w':=by
 have CA:=fun W (hW:Below w.heap.size w W)=>add_q s.x t.x p q 1000 1000 W (h.ext (xbw hW)) (h'.ext (xbw hW)) (by omega) (by omega)
 have hsg:=sgnQ_ne (p + q);replace CA:=Hd CA;clear h h';go_enter Tryz.func165,Tryz.ntmps165;go_wp2_with fail;refine calls_gen (fun W=>Blk W w.heap.size 57 #[.bool s.x.neg,.slice s.x.a s.x.n s.x.c,.slice s.x.b s.x.m s.x.d,.slice s.a s.n s.c] /\ Blk W (w.heap.size + 1) 57 #[.bool t.x.neg,.slice t.x.a t.x.n t.x.c,.slice t.x.b t.x.m t.x.d,.slice t.a t.n t.c] /\ Blk W (w.heap.size + 1 + 1) 57 #[.bool false,.slice none 0 0,.slice none 0 0,.slice none 0 0] /\ Below w.heap.size w W) (by refine ⟨?_,?_,?_,?_⟩<;>first|((with_reducible repeat first|assumption|(apply bF;focus omega)|apply bS|(apply bN;focus (simp;done))|apply bA|apply bD);all_goals rfl)|go_grown) ?_;rintro w0 ⟨hx,hy,hz,hw0⟩;obtain ⟨g1,hg1⟩:∃ g,g = w.heap.size + 1:=⟨_,rfl⟩
 obtain ⟨g2,hg2⟩:∃ g,g = w.heap.size + 1 + 1:=⟨_,rfl⟩
 rw [<- hg2] at hz ⊢;rw [<- hg1] at hy ⊢;refine (CA.out _ hw0).mono ?_;rintro e w1 ⟨x,rfl,HX,hb1⟩;replace HX:=Hd HX;have hg20:=hz.lt;replace hy:=hy.below' hb1; replace hz:=hz.below' hb1; replace hx:=hx.below' hb1;have hw1:=bth hw0 hb1;have hlt1:=hy.lt; have hlt2:=hz.lt; have hlt3:=hx.lt;have hlo2:w.heap.size <= w0.heap.size:=hw0.size;have hww:Hid (w1.heap.size <= w1.heap.size):=Hd (nlr _);go_wp2
 refine world_gen (fun W=>Blk W w1.heap.size 54 #[.bool x.neg,.slice x.a x.n x.c,.slice x.b x.m x.d] /\ Blk W w.heap.size 57 #[.bool s.x.neg,.slice s.x.a s.x.n s.x.c,.slice s.x.b s.x.m s.x.d,.slice s.a s.n s.c] /\ Blk W g2 57 #[.bool false,.slice none 0 0,.slice none 0 0,.slice none 0 0] /\ Kp (fun V=>QK (1000 + 1000 + 1) V x (p + q)) w0.heap.size w1.heap.size W /\ Below w.heap.size w W /\ w1.heap.size <= W.heap.size) ⟨by ((with_reducible repeat first|assumption|(apply bF;focus omega)|apply bS|(apply bN;focus (simp;done))|apply bA|apply bD);all_goals rfl),by ((with_reducible repeat first|assumption|(apply bF;focus omega)|apply bS|(apply bN;focus (simp;done))|apply bA|apply bD);all_goals rfl),by ((with_reducible repeat first|assumption|(apply bF;focus omega)|apply bS|(apply bN;focus (simp;done))|apply bA|apply bD);all_goals rfl),by (with_reducible repeat first | exact HX.out | (refine Kp.setc ?_ ?_; focus omega) | refine Kp.alloc ?_ | refine Kp.drew ?_),by go_grown,by simp⟩ ?_
 rintro w2 ⟨hc,hx,hz,HK,hw2,hsz2⟩;rw [<- hg2];have hne1:w1.heap.size ≠ g2:=by omega
 have hne2:w.heap.size ≠ g2:=by omega
 have hgw:w.heap.size <= g2:=by omega
 clear hg1;replace hg2:=Hd hg2;obtain ⟨h1,hh1⟩:∃ h,h = w1.heap.size:=⟨_,rfl⟩
 obtain ⟨R,hR⟩:∃ R,sgnQ (p + q) = R:=⟨_,rfl⟩
 rw [hR] at hsg;have CS:=fun W (hW:Below w2.heap.size w2 W)=>sign_q x (p + q) 2001 W ((HK.call hW).now) (by omega)
 rw [hR] at CS;replace CS:=Hd CS; replace HK:=Hd HK;obtain ⟨S,hS⟩:∃ S:World -> Prop,S = fun W=>Blk W w1.heap.size 54 #[.bool x.neg,.slice x.a x.n x.c,.slice x.b x.m x.d] /\ Blk W w.heap.size 57 #[.bool s.x.neg,.slice s.x.a s.x.n s.x.c,.slice s.x.b s.x.m s.x.d,.slice s.a s.n s.c]:=⟨_,rfl⟩
 rw [<- hh1] at hS ⊢;rw [<- hh1] at hc hne1;have k0:∀ W,Sat S W -> W.cell? ⟨h1,0,none⟩ = some (.bool x.neg):=fun W h=>by unfold Sat at h; rw [hS] at h; exact h.1.cell 0
 have k1:∀ W,Sat S W -> W.cell? ⟨h1,1,none⟩ = some (.slice x.a x.n x.c):=fun W h=>by unfold Sat at h; rw [hS] at h; exact h.1.cell 1
 have k2:∀ W,Sat S W -> W.cell? ⟨h1,2,none⟩ = some (.slice x.b x.m x.d):=fun W h=>by unfold Sat at h; rw [hS] at h; exact h.1.cell 2
 have k3:∀ W,Sat S W -> W.cell? ⟨w.heap.size,3,none⟩ = some (.slice s.a s.n s.c):=fun W h=>by unfold Sat at h; rw [hS] at h; exact h.2.cell 3
 have s0:Sat S w2.drew:=by unfold Sat; rw [hS]; exact ⟨hc,hx⟩
 replace hS:=Hd hS; replace hh1:=Hd hh1;clear hlt1 hlt2 hlt3 hw0 hw1 hb1 hy HX CA hR;refine wp_region_mix (S:=Sat S) [(0,.q),(1,.q),(2,.q),(3,.q),(4,.q),(5,.l),(6,.q),(7,.l),(8,.p)] (by kernel_rfl) (by kernel_rfl) (by kernel_rfl) (fun d _ _ _ _ h=>by cases d <;> exact h) (s0) ?_
 iterate 5 (refine wpMix_q rfl rfl (fun K hK=>?_); apply Exists.intro; refine ⟨fun w' hw'=>?_,?_⟩; (focus (go_simp; try rfl)); go_simp; refine hK _ _ ?_; clear hK K)
 refine wpMix_l rfl rfl (fun K hK=>?_);go_simp;refine (CS.out _ (brf.drew)).mono ?_;rintro r w3 ⟨rfl,hb3⟩;dsimp only;refine hK.out _ _ ((by unfold Sat; rw [hS.out]; exact ⟨hc.below' (bth (brf.drew) hb3),hx.below' (bth (brf.drew) hb3)⟩)) (fun _=>?_);clear hK K;replace hb3:=bth ((Below.refl w2.heap.size w2).drew) hb3;have hz3:=hz.below' hb3;have hc3:=hc.below' hb3; have hx3:=hx.below' hb3;have HK3:=Hd (HK.out.call hb3);have z0:=hz3.cell 0; have z1:=hz3.cell 1; have z2:=hz3.cell 2; have z3:=hz3.cell 3;have f0:=hz3.frozen 0; have f1:=hz3.frozen 1; have f2:=hz3.frozen 2; have f3:=hz3.frozen 3
 iterate 1 (refine wpMix_q rfl rfl (fun K hK=>?_); apply Exists.intro; refine ⟨fun w' hw'=>?_,?_⟩; (focus (go_simp; try rfl)); go_simp; refine hK _ _ ?_; clear hK K)
 refine wpMix_l rfl rfl (fun K hK=>?_);go_simp;refine hK.out _ _ ((by unfold Sat; rw [hS.out]; exact ⟨by ((with_reducible repeat first|assumption|(apply bF;focus omega)|apply bS|(apply bN;focus (simp;done))|apply bA|apply bD);all_goals rfl),by ((with_reducible repeat first|assumption|(apply bF;focus omega)|apply bS|(apply bN;focus (simp;done))|apply bA|apply bD);all_goals rfl)⟩)) (fun _=>?_);clear hK K
 iterate 1 (refine wpMix_p rfl rfl (fun K hK=>?_); apply Exists.intro; refine ⟨fun w'=>?_,?_⟩; (focus (go_simp; try rfl)); go_simp; refine hK _ _ ?_; clear hK K)
 refine wpMix_nil ?_;go_wp2;refine world_gen (fun W=>Blk W g2 57 #[.bool x.neg,.slice x.a x.n x.c,.slice x.b x.m x.d,.slice s.a s.n s.c] /\ Kp (fun V=>QK (1000 + 1000 + 1) V x (p + q)) w0.heap.size w1.heap.size W /\ Below w.heap.size w W /\ w3.heap.size <= W.heap.size) ⟨by ((with_reducible repeat first|assumption|(apply bF;focus omega)|apply bS|(apply bN;focus (simp;done))|apply bA|apply bD);all_goals rfl),by (with_reducible repeat first | exact HK3.out | (refine Kp.setc ?_ ?_; focus omega) | refine Kp.alloc ?_ | refine Kp.drew ?_),?_,by simp⟩ ?_
 ·
  have hb:=bth hw2 hb3;exact (((hb.setCell hgw _).setCell hgw _).setCell hgw _).setCell hgw _
 rintro w4 ⟨hF,HF,hw4,hsz⟩;have e0:=hF.cell 0; have e1:=hF.cell 1; have e2:=hF.cell 2; have e3:=hF.cell 3;refine bodyPost_ret (v:=.tuple #[.agg #[.bool x.neg,.slice x.a x.n x.c,.slice x.b x.m x.d,.slice s.a s.n s.c],.bool (!decide (p + q = 0))]) (by simp [results,Tryz.results165,go_sem,e0,e1,e2,e3]) rfl ?_;exact ⟨x,rfl,HF.broad hlo2 (by have:=hb3.size; omega),hw4⟩
end Go.Proofs.YtkjnkpkagcboeaaGreatDoor
namespace Go.Proofs.YtkjnkpkagcboeaaGreatDoor
open Go.RowKit Go.Lib
def fidx (sep:List UInt8):List UInt8 -> Nat -> Option Nat
 | [],_=>none
 | b :: l,n=>if sep.isPrefixOf (b :: l) then some n else fidx sep l (n + 1)
theorem fidx_index {sep:List UInt8} (hsep:sep ≠ []):∀ (s:List UInt8) (n:Nat),(fidx sep s n = none /\ index s sep = -1) \/ (∃ i,fidx sep s n = some (n + i) /\ index s sep = (i:Int))
 | [],n=>.inl ⟨rfl,by unfold index; rw [if_neg (by simpa using hsep)]⟩
 | b :: l,n=>by
  unfold fidx index;by_cases h:sep.isPrefixOf (b :: l) = true
  ·
   rw [if_pos h,if_pos h];exact .inr ⟨0,rfl,rfl⟩
  ·
   rw [if_neg h,if_neg h];rcases fidx_index hsep l (n + 1) with ⟨h1,h2⟩ | ⟨i,h1,h2⟩
   · exact .inl ⟨h1,by rw [h2]; rfl⟩
   ·
    refine .inr ⟨i + 1,by rw [h1]; congr 1; omega,?_⟩;rw [h2];have:((i:Int) == -1) = false:=by rw [beq_eq_false_iff_ne]; omega
    simp [this]
def pieces (sep:List UInt8):Nat -> List UInt8 -> List (List UInt8)
 | 0,s=>[s]
 | k + 1,s=>match fidx sep s 0 with
  | none=>[s]
  | some i=>s.take i :: pieces sep k (s.drop (i + sep.length))
theorem pieces_split {sep:List UInt8} (hsep:sep ≠ []):∀ (k:Nat) (s:List UInt8),(pieces sep k s).length <= k -> splitK sep 0 (count s sep) s = pieces sep k s /\ count s sep + 1 = (pieces sep k s).length
 | 0,s,h=>by simp [pieces] at h
 | k + 1,s,h=>by
  unfold pieces at h ⊢;rcases fidx_index hsep s 0 with ⟨h1,h2⟩ | ⟨i,h1,h2⟩
  ·
   rw [h1];rw [count_miss h2];exact ⟨rfl,rfl⟩
  ·
   rw [Nat.zero_add] at h1;rw [h1] at h ⊢;simp only [List.length_cons] at h ⊢;obtain ⟨e1,e2⟩:=pieces_split hsep k (s.drop (i + sep.length)) (by omega);rw [count_hit hsep h2];have hm:¬ (index s sep == -1) = true:=fun e=>by have:=beq_iff_eq.1 e; omega
   refine ⟨?_,by omega⟩;rw [Nat.add_comm 1,splitK,if_neg hm,h2];simp only [Int.toNat_natCast,Nat.add_zero];rw [e1]
def ofL (l:List UInt8):ByteArray:=⟨l.toArray⟩
theorem ofL_data (s:ByteArray):ofL s.data.toList = s:=by cases s; rfl
theorem data_ofL (l:List UInt8):(ofL l).data.toList = l:=rfl
theorem ofL_app (a b:List UInt8):ofL a ++ ofL b = ofL (a ++ b):=by
 rw [<- ofL_data (ofL a ++ ofL b)];simp [ofL]
theorem ofL_size (a:List UInt8):(ofL a).size = a.length:=by simp [ofL,ByteArray.size]
theorem split_pieces {sep s:List UInt8} (hsep:sep ≠ []) (k:Nat) {l:List (List UInt8)} (hl:pieces sep k s = l) (hk:l.length <= k) :
  splitB (ofL sep) 0 (countB (ofL s) (ofL sep)) (ofL s) = l.map ofL /\ countB (ofL s) (ofL sep) + 1 = l.length:=by
 subst hl;obtain ⟨h1,h2⟩:=pieces_split hsep k s hk;have h3:=splitB_data (ofL sep) 0 (count s sep) (ofL s);refine ⟨?_,h2⟩
 show splitB (ofL sep) 0 (count s sep) (ofL s) = _
 rw [data_ofL,data_ofL,h1] at h3;rw [<- h3,List.map_map];have:(ofL ∘ fun x:ByteArray=>x.data.toList) = id:=by funext x; exact ofL_data x
 rw [this,List.map_id]
end Go.Proofs.YtkjnkpkagcboeaaGreatDoor
namespace Go.Proofs.YtkjnkpkagcboeaaGreatDoor
def digs (n:Nat):List UInt8:=if h:n = 0 then [] else digs (n / 10) ++ [(48 + n % 10).toUInt8]
termination_by n
decreasing_by omega
theorem digs_zero:digs 0 = []:=by rw [digs]; simp
theorem digs_pos {n:Nat} (h:n ≠ 0):digs n = digs (n / 10) ++ [(48 + n % 10).toUInt8]:=by rw [digs]; simp [h]
def textN (n:Nat):List UInt8:=if n = 0 then [48] else digs n
def textZ (neg:Bool) (n:Nat):List UInt8:=if neg = true then 45 :: textN n else textN n
theorem digs_small {n:Nat} (h0:n ≠ 0) (h:n < 10):digs n = [(48 + n).toUInt8]:=by
 rw [digs_pos h0,show n / 10 = 0 by omega,digs_zero,show n % 10 = n by omega]; rfl
theorem textN_small {n:Nat} (h:n < 10):textN n = [(48 + n).toUInt8]:=by
 unfold textN
 split
 · next h0=>subst h0; rfl
 · next h0=>exact digs_small h0 h
theorem digs_len (k n:Nat) (h:n < 10 ^ k):(digs n).length <= k:=by
 induction k generalizing n with
 | zero=>simp at h; subst h; rw [digs_zero]; simp
 | succ k ih =>
  by_cases h0:n = 0
  · subst h0; rw [digs_zero]; simp
  ·
   rw [digs_pos h0,List.length_append];have:=ih (n / 10) (by rw [Nat.pow_succ] at h; omega);simp; omega
end Go.Proofs.YtkjnkpkagcboeaaGreatDoor
namespace Go.Proofs.YtkjnkpkagcboeaaGreatDoor
open Go.RowKit
theorem digs_len_limbs (n:Nat) (h:(limbs n).length <= 2000000):(digs n).length <= 10000000:=by
 have h1:=lt_pow_limbs n;have h2:65536 ^ (limbs n).length <= (10 ^ 5) ^ (limbs n).length:=Nat.pow_le_pow_left (by omega) _;rw [<- Nat.pow_mul] at h2;have h3:=digs_len (5 * (limbs n).length) n (ltl h1 h2)
 omega
theorem textN_len (n:Nat) (h:(limbs n).length <= 2000000):(textN n).length <= 10000000:=by
 unfold textN
 split
 · simp
 · exact digs_len_limbs n h
theorem limbs_oneT:limbs 1 = [1]:=by rw [limbs_pos (by omega),limbs_zero]; rfl
end Go.Proofs.YtkjnkpkagcboeaaGreatDoor
namespace Go.Proofs.YtkjnkpkagcboeaaGreatDoor
def grpN (n j:Nat):List Int:=(List.range j).map fun i=>((n / 10000 ^ i % 10000:Nat):Int)
theorem grpN_len (n j:Nat):(grpN n j).length = j:=by simp [grpN]
theorem grpN_succ (n j:Nat):grpN n (j + 1) = grpN n j ++ [((n / 10000 ^ j % 10000:Nat):Int)]:=by unfold grpN; rw [List.range_succ,List.map_append]; rfl
theorem grpN_at (n j i:Nat) (h:i < j):(grpN n j)[i]? = some ((n / 10000 ^ i % 10000:Nat):Int):=by unfold grpN; simp [h]
def pw10:Nat -> Nat
 | 0=>0
 | g + 1=>10 ^ g
theorem pw10_step (h:Nat) (hh:h <= 3):(pw10 (h + 1)) / 10 = pw10 h:=by
 match h with
 | 0=>rfl
 | 1=>rfl
 | 2=>rfl
 | 3=>rfl
def topN (m x g:Nat):Nat:=m * 10 ^ (4 - g) + x / 10 ^ g
theorem topN_step (m x h:Nat) (hh:h <= 3):topN m x h = 10 * topN m x (h + 1) + x / 10 ^ h % 10:=by
 unfold topN;have e1:10 ^ (4 - h) = 10 * 10 ^ (4 - (h + 1)):=by
  rw [show 4 - h = (4 - (h + 1)) + 1 by omega,Nat.pow_succ,Nat.mul_comm]
 have e2:x / 10 ^ (h + 1) = x / 10 ^ h / 10:=by rw [Nat.pow_succ,Nat.div_div_eq_div_mul]
 rw [e1,e2,Nat.mul_left_comm]
 omega
theorem topN_start (m x:Nat) (hx:x < 10000):topN m x 4 = m:=by
 unfold topN; rw [Nat.div_eq_of_lt (show x < 10 ^ 4 by omega)]; simp
theorem topN_end (m x:Nat):topN m x 0 = m * 10000 + x:=by unfold topN; simp
theorem group_end (n i:Nat):n / 10000 ^ (i + 1) * 10000 + n / 10000 ^ i % 10000 = n / 10000 ^ i:=by
 rw [Nat.pow_succ,<- Nat.div_div_eq_div_mul]; omega
theorem digs_len_pos (n:Nat):0 < (digs n).length ↔ n ≠ 0:=by
 constructor
 · intro h e; subst e; rw [digs_zero] at h; simp at h
 · intro h; rw [digs_pos h]; simp
theorem topN_cond (m x h:Nat) (hh:h <= 3):((0 < (digs (topN m x (h + 1))).length) \/ 10 ^ h <= x) ↔ topN m x h ≠ 0:=by
 rw [digs_len_pos];have h0:0 < 10 ^ h:=Nat.pow_pos (by omega);have hs:=topN_step m x h hh
 constructor
 ·
  rintro (h1 | h1)
  · omega
  ·
   have:1 <= x / 10 ^ h:=(Nat.le_div_iff_mul_le h0).2 (by omega);unfold topN; omega
 ·
  intro h1;by_cases h2:topN m x (h + 1) = 0
  ·
   right;refine Nat.le_of_not_lt fun h3=>h1 ?_
   rw [hs,h2,Nat.div_eq_of_lt h3]
  · exact .inl h2
theorem topN_digs (m x h:Nat) (hh:h <= 3) (h1:topN m x h ≠ 0):digs (topN m x h) = digs (topN m x (h + 1)) ++ [(48 + x / 10 ^ h % 10).toUInt8]:=by
 have hs:=topN_step m x h hh;rw [digs_pos h1,show topN m x h / 10 = topN m x (h + 1) by omega,show topN m x h % 10 = x / 10 ^ h % 10 by omega]
theorem topN_none (m x h:Nat) (hh:h <= 3) (h1:topN m x h = 0):digs (topN m x (h + 1)) = digs (topN m x h):=by
 have hs:=topN_step m x h hh;rw [h1,show topN m x (h + 1) = 0 by omega]
theorem topN_le (m x h:Nat):topN m x h <= m * 10000 + x:=by
 unfold topN;have h1:10 ^ (4 - h) <= 10 ^ 4:=Nat.pow_le_pow_right (by omega) (by omega);have h2:x / 10 ^ h <= x:=Nat.div_le_self _ _;have h3:=Nat.mul_le_mul_left m h1;have h4:(10:Nat) ^ 4 = 10000:=rfl;rw [h4] at h3
 omega
theorem digs_mono {a b:Nat} (h:a <= b):(digs a).length <= (digs b).length:=by
 induction b using Nat.strongRecOn generalizing a with
 | _ b ih =>
  by_cases h0:a = 0
  · subst h0; rw [digs_zero]; simp
  ·
   rw [digs_pos h0,digs_pos (show b ≠ 0 by omega),List.length_append,List.length_append];have:=ih (b / 10) (by omega) (a:=a / 10) (by omega);simp; omega
theorem groups_few (n L j:Nat) (h:n < 65536 ^ L) (hj:n / 10000 ^ j ≠ 0):j < 2 * L:=by
 refine Nat.lt_of_not_le fun h1=>hj (Nat.div_eq_of_lt ?_)
 refine ltl h ?_;have h2:65536 ^ L <= (10000 ^ 2) ^ L:=Nat.pow_le_pow_left (by omega) _;rw [<- Nat.pow_mul] at h2;exact Nat.le_trans h2 (Nat.pow_le_pow_right (by omega) h1)
end Go.Proofs.YtkjnkpkagcboeaaGreatDoor
namespace Go.Proofs
open Go.Shelf
def Tryz.lays166_ren:Go.Shelf.Ren:=⟨fun | 166=>29 | 240=>57 | 276=>105 | n=>n,fun | 0=>0 | 3=>3 | 4=>4 | 5=>5 | 9=>9 | 20=>20 | 37=>60 | 70=>59 | 72=>62 | 75=>65 | 80=>69 | 164=>140 | n=>n,fun n=>n⟩
theorem Tryz.lays166:Lays.n166 Tryz.prog Tryz.lays166_ren where
 mixed:=by kernel_rfl
 f166:=Tryz.func29.trans (congrArg some (by kernel_rfl))
 f240:=Tryz.func57.trans (congrArg some (by kernel_rfl))
 f276:=Tryz.func105.trans (congrArg some (by kernel_rfl))
 t0:=Tryz.underlying0
 a0:=Tryz.isAgg0
 z0:=Tryz.sizeOf0
 v0:=Tryz.zeroValue0
 t3:=Tryz.underlying3
 a3:=Tryz.isAgg3
 z3:=Tryz.sizeOf3
 v3:=Tryz.zeroValue3
 t4:=Tryz.underlying4
 a4:=Tryz.isAgg4
 z4:=Tryz.sizeOf4
 v4:=Tryz.zeroValue4
 t9:=Tryz.underlying9
 a9:=Tryz.isAgg9
 z9:=Tryz.sizeOf9
 v9:=Tryz.zeroValue9
 t20:=Tryz.underlying20
 a20:=Tryz.isAgg20
 z20:=Tryz.sizeOf20
 v20:=Tryz.zeroValue20
 t37:=Tryz.underlying60
 a37:=Tryz.isAgg60
 z37:=Tryz.sizeOf60
 v37:=Tryz.zeroValue60
 t70:=Tryz.underlying59
 a70:=Tryz.isAgg59
 z70:=Tryz.sizeOf59
 v70:=Tryz.zeroValue59
 t72:=Tryz.underlying62
 a72:=Tryz.isAgg62
 z72:=Tryz.sizeOf62
 v72:=Tryz.zeroValue62
 t75:=Tryz.underlying65
 a75:=Tryz.isAgg65
 z75:=Tryz.sizeOf65
 v75:=Tryz.zeroValue65
 t164:=Tryz.underlying140
 a164:=Tryz.isAgg140
 z164:=Tryz.sizeOf140
 v164:=Tryz.zeroValue140
def Tryz.lays169_ren : Go.Shelf.Ren := ⟨fun | 169 => 31 | n => n, fun | 70 => 59 | 9 => 9 | 0 => 0 | 72 => 62 | 37 => 60 | 127 => 108 | 3 => 3 | 5 => 5 | n => n, fun | n => n⟩
theorem Tryz.lays169 : Go.Proofs.Lays.n169 Tryz.prog Tryz.lays169_ren := {
  mixed := by kernel_rfl
  f169 := Tryz.func31.trans (congrArg some (by kernel_rfl))
  t0 := Tryz.underlying0
  a0 := Tryz.isAgg0
  z0 := Tryz.sizeOf0
  v0 := Tryz.zeroValue0
  t3 := Tryz.underlying3
  a3 := Tryz.isAgg3
  z3 := Tryz.sizeOf3
  v3 := Tryz.zeroValue3
  t9 := Tryz.underlying9
  a9 := Tryz.isAgg9
  z9 := Tryz.sizeOf9
  v9 := Tryz.zeroValue9
  t37 := Tryz.underlying60
  a37 := Tryz.isAgg60
  z37 := Tryz.sizeOf60
  v37 := Tryz.zeroValue60
  t70 := Tryz.underlying59
  a70 := Tryz.isAgg59
  z70 := Tryz.sizeOf59
  v70 := Tryz.zeroValue59
  t72 := Tryz.underlying62
  a72 := Tryz.isAgg62
  z72 := Tryz.sizeOf62
  v72 := Tryz.zeroValue62
  t127 := Tryz.underlying108
  a127 := Tryz.isAgg108
  z127 := Tryz.sizeOf108
  v127 := Tryz.zeroValue108 }
theorem Tryz.Extra166:Builder.Extra Tryz.prog Tryz.lays166_ren where
 sizeBuilder:=by kernel_rfl
 liesBuilder:=by kernel_rfl
 t5:=Tryz.underlying5
 a5:=Tryz.isAgg5
 z5:=Tryz.sizeOf5
 v5:=Tryz.zeroValue5
 infoByte:=by kernel_rfl
 cellsByte:=by kernel_rfl
 sizeByte:=by kernel_rfl
 neB5:=by decide
theorem Tryz.Extra169:Builder.Extra Tryz.prog Tryz.lays169_ren where
 sizeBuilder:=by kernel_rfl
 liesBuilder:=by kernel_rfl
 t5:=Tryz.underlying5
 a5:=Tryz.isAgg5
 z5:=Tryz.sizeOf5
 v5:=Tryz.zeroValue5
 infoByte:=by kernel_rfl
 cellsByte:=by kernel_rfl
 sizeByte:=by kernel_rfl
 neB5:=by decide
def Tryz.lays167_ren:Go.Shelf.Ren:=⟨fun | 167=>152 | 240=>57 | 276=>105 | n=>n,fun | 0=>0 | 4=>4 | 5=>5 | 9=>9 | 20=>20 | 37=>60 | 70=>59 | 72=>62 | 75=>65 | 80=>69 | 164=>140 | n=>n,fun n=>n⟩
theorem Tryz.lays167:Lays.n167 Tryz.prog Tryz.lays167_ren where
 mixed:=by kernel_rfl
 f167:=Tryz.func152.trans (congrArg some (by kernel_rfl))
 f240:=Tryz.func57.trans (congrArg some (by kernel_rfl))
 f276:=Tryz.func105.trans (congrArg some (by kernel_rfl))
 t0:=Tryz.underlying0
 a0:=Tryz.isAgg0
 z0:=Tryz.sizeOf0
 v0:=Tryz.zeroValue0
 t4:=Tryz.underlying4
 a4:=Tryz.isAgg4
 z4:=Tryz.sizeOf4
 v4:=Tryz.zeroValue4
 t5:=Tryz.underlying5
 a5:=Tryz.isAgg5
 z5:=Tryz.sizeOf5
 v5:=Tryz.zeroValue5
 t9:=Tryz.underlying9
 a9:=Tryz.isAgg9
 z9:=Tryz.sizeOf9
 v9:=Tryz.zeroValue9
 t20:=Tryz.underlying20
 a20:=Tryz.isAgg20
 z20:=Tryz.sizeOf20
 v20:=Tryz.zeroValue20
 t37:=Tryz.underlying60
 a37:=Tryz.isAgg60
 z37:=Tryz.sizeOf60
 v37:=Tryz.zeroValue60
 t70:=Tryz.underlying59
 a70:=Tryz.isAgg59
 z70:=Tryz.sizeOf59
 v70:=Tryz.zeroValue59
 t72:=Tryz.underlying62
 a72:=Tryz.isAgg62
 z72:=Tryz.sizeOf62
 v72:=Tryz.zeroValue62
 t75:=Tryz.underlying65
 a75:=Tryz.isAgg65
 z75:=Tryz.sizeOf65
 v75:=Tryz.zeroValue65
 t164:=Tryz.underlying140
 a164:=Tryz.isAgg140
 z164:=Tryz.sizeOf140
 v164:=Tryz.zeroValue140
def Tryz.lays170_ren:Go.Shelf.Ren:=⟨fun | 170=>151 | n=>n,fun | 0=>0 | 3=>3 | 5=>5 | 37=>60 | 70=>59 | 72=>62 | n=>n,fun n=>n⟩
theorem Tryz.lays170:Lays.n170 Tryz.prog Tryz.lays170_ren where
 mixed:=by kernel_rfl
 f170:=Tryz.func151.trans (congrArg some (by kernel_rfl))
 t0:=Tryz.underlying0
 a0:=Tryz.isAgg0
 z0:=Tryz.sizeOf0
 v0:=Tryz.zeroValue0
 t3:=Tryz.underlying3
 a3:=Tryz.isAgg3
 z3:=Tryz.sizeOf3
 v3:=Tryz.zeroValue3
 t37:=Tryz.underlying60
 a37:=Tryz.isAgg60
 z37:=Tryz.sizeOf60
 v37:=Tryz.zeroValue60
 t70:=Tryz.underlying59
 a70:=Tryz.isAgg59
 z70:=Tryz.sizeOf59
 v70:=Tryz.zeroValue59
 t72:=Tryz.underlying62
 a72:=Tryz.isAgg62
 z72:=Tryz.sizeOf62
 v72:=Tryz.zeroValue62
theorem Tryz.Extra167:Builder.Extra Tryz.prog Tryz.lays167_ren where
 sizeBuilder:=by kernel_rfl
 liesBuilder:=by kernel_rfl
 t5:=Tryz.underlying5
 a5:=Tryz.isAgg5
 z5:=Tryz.sizeOf5
 v5:=Tryz.zeroValue5
 infoByte:=by kernel_rfl
 cellsByte:=by kernel_rfl
 sizeByte:=by kernel_rfl
 neB5:=by decide
end Go.Proofs
namespace Go.Proofs.YtkjnkpkagcboeaaGreatDoor
open Go.RowKit
def Bld (b:Nat) (l:List UInt8) (w:World):Prop:=Lib.IsBuilderF 62 5 b b (Lib.byteCells l) w
theorem Bld.new (w:World):Bld w.heap.size [] (w.alloc (.cells #[.pointer none,.slice none 0 0] 62)):=by
 refine .inl ⟨nlr _,.slice none 0 0,Blk.new w _ _,World.ownsRowF_nil _ _ _ _,by simp [Value.ownBlock]⟩
theorem Bld.lt {b:Nat} {l:List UInt8} {w:World} (h:Bld b l w):b < w.heap.size:=by
 rcases h with h | h <;> exact h.lt
theorem Bld.below {b:Nat} {l:List UInt8} {w w':World} (h:Bld b l w) (hb:Below w.heap.size w w'):Bld b l w':=by
 have key:∀ p,Lib.BuilderAtF 62 5 b b p (Lib.byteCells l) w -> Lib.BuilderAtF 62 5 b b p (Lib.byteCells l) w':=by
  rintro p ⟨h1,v,h2,h3,h4⟩;refine ⟨h1,v,(hb.block b (Array.getElem?_eq_some_iff.1 h2).1).trans h2,⟨h3.1,?_⟩,h4⟩;rcases h3.2 with hn | ⟨g,cap,cur,fz,e,hg,hh,rest⟩
  · exact .inl hn
  · exact .inr ⟨g,cap,cur,fz,e,hg,(hb.block g (Array.getElem?_eq_some_iff.1 hh).1).trans hh,rest⟩
 rcases h with h | h
 · exact .inl (key _ h)
 · exact .inr (key _ h)
def Oth (b:Nat) (w w':World):Prop:=Lib.OthersKept 5 (some b) w w'
theorem Oth.blk {b:Nat} {w w':World} (h:Oth b w w') {g:Nat} {t:TypeId} {cs:Array Value} (hz:Blk w g t cs) (hg:g ≠ b) (ht:t ≠ 5):Blk w' g t cs:=by
 unfold Blk at hz ⊢;exact h g _ hz (by simpa using hg) (fun c fz e=>ht (by injection e))
theorem write_any (b:Nat) (l:List UInt8) (s:ByteArray) (w:World) (h:Bld b l w) (hl:l.length + s.size <= 70368744177664) :
  Calls Tryz.prog 29 #[.pointer (some ⟨b,0,none⟩),.string s] w fun e w'=>(∃ v,e = .returned v) /\ Bld b (l ++ s.data.toList) w' /\ Below b w w' /\ Oth b w w':=by
 refine (Any.Builder_WriteString_k Tryz.lays166 Tryz.Extra166 b b (Lib.byteCells l) s w h (by simp [Lib.byteCells]; omega) (Nat.le_of_lt h.lt)).mono ?_;rintro e w' ⟨rfl,h1,h2,h3⟩;refine ⟨⟨_,rfl⟩,.inr ?_,h2,h3⟩;have e2:Lib.byteCells (l ++ s.data.toList) = Lib.byteCells l ++ Lib.strCells s:=by simp [Lib.byteCells,Lib.strCells]
 rw [e2]; exact h1
theorem string_any (b:Nat) (l:List UInt8) (w:World) (h:Bld b l w) :
  Calls Tryz.prog 31 #[.pointer (some ⟨b,0,none⟩)] w fun e w'=>e = .returned (.string ⟨l.toArray⟩) /\ Below b w w' /\ Oth b w w':=by
 refine (Any.Builder_String_any_k Tryz.lays169 Tryz.Extra169 b b l w h (Nat.le_of_lt h.lt)).mono ?_;rintro e w' ⟨rfl,_,h2,h3⟩;exact ⟨rfl,h2,h3⟩
theorem byteC (c:UInt8):Lib.byteCells [c] = [.int .u8 (c.toNat:Int)]:=by simp [Lib.byteCells]
theorem writeByte_any (b:Nat) (l:List UInt8) (c:UInt8) (w:World) (h:Bld b l w) (hl:l.length + 1 <= 70368744177664) :
  Calls Tryz.prog 152 #[.pointer (some ⟨b,0,none⟩),.int .u8 (c.toNat:Int)] w fun e w'=>e = .returned .nilIface /\ Bld b (l ++ [c]) w' /\ Below b w w' /\ Oth b w w':=by
 refine (Any.Builder_WriteByte_k Tryz.lays167 Tryz.Extra167 b b (Lib.byteCells l) (c.toNat:Int) w h (by simp [Lib.byteCells]; omega) (Nat.le_of_lt h.lt)).mono ?_;rintro e w' ⟨rfl,h1,h2,h3⟩;refine ⟨rfl,.inr ?_,h2,h3⟩;have e2:Lib.byteCells (l ++ [c]) = Lib.byteCells l ++ [.int .u8 (c.toNat:Int)]:=by rw [<- byteC]; simp [Lib.byteCells]
 rw [e2]; exact h1
theorem bldLen_any (b:Nat) (l:List UInt8) (w:World) (h:Bld b l w) :
  Calls Tryz.prog 151 #[.pointer (some ⟨b,0,none⟩)] w fun e w'=>e = .returned (.int .i64 l.length) /\ w' = w:=by
 refine (Any.Builder_Len_f Tryz.lays170 b b (Lib.byteCells l) w h).mono ?_;rintro e w' ⟨rfl,rfl⟩;exact ⟨by simp [Lib.byteCells],rfl⟩
end Go.Proofs.YtkjnkpkagcboeaaGreatDoor
namespace Go.Proofs.YtkjnkpkagcboeaaGreatDoor
open Go.RowKit
theorem grpN_u16 (n j:Nat):U16 (grpN n j):=fun x hx=>by
 unfold grpN at hx;obtain ⟨i,_,rfl⟩:=List.mem_map.1 hx
 omega
theorem ntext_any (l:List Int) (n:Nat) (a:Option Addr) (c:Nat) (w:World) (h:NatR w a c l) (hn:val l = n) (hl:l.length <= 1000000) :
  Calls Tryz.prog 110 #[.slice a l.length c] w fun e w'=>e = .returned (.string (ofL (textN n))) /\ Below w.heap.size w w':=by
 have C1:=norm_any l a c w h (by omega);rw [hn] at C1;have hln:(limbs n).length <= 1000000:=by have:=limbs_len_val h.u16; rw [hn] at this; omega
 have hlt:∀ j,n / 10000 ^ j ≠ 0 -> j < 2 * 1000000:=fun j hj=>ltl (groups_few n _ j (lt_pow_limbs n) hj) (Nat.mul_le_mul_left 2 hln)
 have HFEW:=Hd hlt;have HLEN:=Hd (textN_len n (by omega));replace C1:=Hd C1;clear h hn hlt;go_enter Tryz.func110,Tryz.ntmps110;go_wp2_with fail;refine C1.out.mono ?_;rintro e w1 ⟨a1,c1,rfl,hV1,hb1⟩;have R1:=Hd hV1;clear hV1 C1;by_cases h0:n = 0
 ·
  subst h0;rw [limbs_zero];clear HFEW HLEN R1 hln;go_wp2;go_ret;exact ⟨rfl,hb1⟩
 have hp:(((limbs n).length:Int) == 0) = false:=by have:=limbs_len_pos.2 (show 0 < n by omega); rw [beq_eq_false_iff_ne]; omega
 go_wp2
 go_loopg [0,3,4,5,17] n (fun g s0 s3 _ _ _ wr=>∃ (j:Nat) (ax ag:Option Addr) (cx cg:Nat),Hid (g = n / 10000 ^ j) /\ Hid (j <= 2000000) /\ s0 = .slice ax (limbs g).length cx /\ s3 = .slice ag (grpN n j).length cg /\ (∀ V,New w.heap.size wr V -> NatR V ax cx (limbs g)) /\ OwnN w.heap.size wr ag cg (grpN n j) /\
  (limbs g).length <= 1000000 /\ Below w.heap.size w wr)
 case atStart=>exact ⟨0,a1,none,c1,0,by show _ = _; simp,by show _ <= _; omega,rfl,rfl,R1.out,Own.nil,hln,hb1⟩
 case round =>
  obtain ⟨j,ax,ag,cx,cg,hg,hjl,rfl,rfl,hx,hG,hlx,hb'⟩:=hrel;have HX:=Hd hx; have HG:=Hd hG;clear hx hG hb1 R1 hp;by_cases hz:gk = 0
  ·
   subst hz;have hz0:decide (0 < (limbs 0).length) = false:=by rw [limbs_zero]; rfl
   rw [grpN_len];clear HX;obtain ⟨wo,rfl⟩:∃ wo:World,wo = wr:=⟨_,rfl⟩
   have HR:=Hd (fun W (hW:Below wo.heap.size wo W)=>(HG.out.reads1 (grpN_u16 n j)).ext (xbw hW));have hz1:=hg.out;replace hz1:=Hd hz1.symm;have hjm:=hjl.out;clear HG hlx hg hjl;go_wp2;have hB0:=Bld.new wo;have hw0:Below wo.heap.size wo (wo.alloc (.cells #[.pointer none,.slice none 0 0] 62)):=brf.alloc (nlr _) _;revert hB0 hw0;generalize wo.alloc (.cells #[.pointer none,.slice none 0 0] 62) = wb;intro hB0 hw0
   go_loopg [7,8] j (fun g s7 _ w2=>∃ (L:List UInt8),s7 = .int .i64 ((g:Int) - 1) /\ g <= j /\ Bld wo.heap.size L w2 /\ Hid (L = digs (n / 10000 ^ g)) /\ Below wo.heap.size wo w2)
   case atStart=>exact ⟨[],rfl,nlr _,hB0,by show _ = _; rw [hz1.out,digs_zero],hw0⟩
   case round =>
    clear hB0 hw0;obtain ⟨w2,rfl⟩:∃ w2:World,w2 = wr:=⟨_,rfl⟩
    obtain ⟨L,rfl,hgj,hB,hL,hw⟩:=hrel;by_cases g0:gk = 0
    ·
     subst g0;have hLn:textN n = L:=by rw [hL.out]; unfold textN; rw [if_neg h0]; simp
     have CS:=Hd (string_any _ L w2 hB);clear hL HR hz1;go_wp2_with fail;refine CS.out.mono ?_;rintro e w3 ⟨rfl,hb3,_⟩;go_wp2;go_ret;exact ⟨ret_str (by rw [hLn]; rfl),bth hb' (hw.trans hb3)⟩
    ·
     obtain ⟨i,rfl⟩:∃ i,gk = i + 1:=⟨gk - 1,by omega⟩
     obtain ⟨x,hx⟩:∃ x,n / 10000 ^ i % 10000 = x:=⟨_,rfl⟩
     obtain ⟨m,hm⟩:∃ m,n / 10000 ^ (i + 1) = m:=⟨_,rfl⟩
     have hx4:x < 10000:=by omega
     have hge:=group_end n i;have hat:=grpN_at n j i (by omega);rw [hx] at hge hat;rw [hm] at hge hL;have hmn:m * 10000 + x <= n:=by rw [hge]; exact Nat.div_le_self _ _
     have HLL:=Hd (fun h=>Nat.le_trans (digs_mono (Nat.le_trans (topN_le m x h) hmn)) (by have:=HLEN.out; unfold textN at this; rwa [if_neg h0] at this));replace hge:=Hd hge; replace hat:=Hd hat;have e1:(((i + 1:Nat):Int) - 1) = (i:Int):=by omega
     rw [e1];clear hx hm e1 hmn;go_wp2
     go_loopg [8] 4 (fun h s8 w3=>∃ (L3:List UInt8),s8 = .int .u16 ((pw10 h:Nat):Int) /\ h <= 4 /\ Bld wo.heap.size L3 w3 /\ Hid (L3 = digs (topN m x h)) /\ Below wo.heap.size wo w3)
     case atStart=>exact ⟨L,rfl,nlr _,hB,by show _ = _; rw [topN_start m x hx4]; exact hL.out,hw⟩
     case round =>
      obtain ⟨L3,rfl,hg4,hB3,hL3,hw3⟩:=hrel;clear hB hw hL;by_cases g0:gk = 0
      ·
       subst g0;have hLn:=hL3.out;rw [topN_end,hge.out] at hLn;have d0:decide (((pw10 0:Nat):Int) > 0) = false:=rfl;replace hLn:=Hd hLn;clear hL3;go_wp2;go_roundg i
       case rel=>exact ⟨L3,rfl,by omega,hB3,hLn,hw3⟩
       case measure=>omega
      ·
       obtain ⟨t,rfl⟩:∃ t,gk = t + 1:=⟨gk - 1,by omega⟩
       have ht3:t <= 3:=by omega
       have hc1:=topN_cond m x t ht3;have hc2:=topN_digs m x t ht3;have hc3:=topN_none m x t ht3;have hps:=pw10_step t ht3;have hpd:pw10 (t + 1) = 10 ^ t:=rfl;have hp0:0 < 10 ^ t:=Nat.pow_pos (by omega);have hp1:10 ^ t <= 1000:=Nat.le_trans (Nat.pow_le_pow_right (by omega) ht3) (by omega);rw [<- hL3.out] at hc1 hc2 hc3;have hl3:L3.length <= 10000000:=by rw [hL3.out]; exact HLL.out _
       obtain ⟨y,hy⟩:∃ y,topN m x t = y:=⟨_,rfl⟩
       rw [hy] at hc1 hc2 hc3;rw [hpd] at hps ⊢;obtain ⟨D,hD⟩:∃ D,10 ^ t = D:=⟨_,rfl⟩
       rw [hD] at hc1 hc2 hps hp0 hp1 ⊢;obtain ⟨E,hE⟩:∃ E,pw10 t = E:=⟨_,rfl⟩
       rw [hE] at hps;have hdE:(D:Int).tdiv 10 = (E:Int):=by rw [<- hps]; rfl
       have hDi:(0:Int) < (D:Int):=by omega
       have CL:=Hd (bldLen_any _ L3 wr hB3);replace hy:=Hd hy; replace hc1:=Hd hc1; replace hc2:=Hd hc2; replace hc3:=Hd hc3; replace hE:=Hd hE;obtain ⟨bg,og,rfl,hcell⟩:=(HR.out wr hw3).cell hat.out;clear hpd hL3 hD;have hs10:x / D % 10 < 10:=Nat.mod_lt _ (by omega);have hq1:(x:Int).tdiv (D:Int) = ((x / D:Nat):Int):=rfl;have hq2:((x / D:Nat):Int).tmod 10 = ((x / D % 10:Nat):Int):=rfl;obtain ⟨u,hu⟩:∃ u,x / D = u:=⟨_,rfl⟩
       rw [hu] at hq1 hq2 hs10 hc2;obtain ⟨s,hs⟩:∃ s,u % 10 = s:=⟨_,rfl⟩
       rw [hs] at hq2 hs10 hc2;have hsi:(s:Int) < 10:=by omega
       have CW:=writeByte_any _ L3 (48 + s).toUInt8 wr hB3 (by omega);rw [show (((48 + s).toUInt8.toNat:Nat):Int) = 48 + (s:Int) by have e:(48 + s).toUInt8.toNat = 48 + s:=by { simp; omega }; rw [e]; omega] at CW;replace CW:=Hd CW;have hE16:E < 65536:=by rw [<- hps]; exact Nat.lt_of_le_of_lt (Nat.div_le_self _ _) (by omega)
       have hwE:IntKind.u16.wrap (E:Int) = (E:Int):=by rw [wrap16,Nat.mod_eq_of_lt hE16]
       have hD0:((D:Int) == 0) = false:=by simp; omega
       have hu9:u < 65536:=by rw [<- hu]; exact Nat.lt_of_le_of_lt (Nat.div_le_self _ _) (by omega)
       have hw1:IntKind.u16.wrap (u:Int) = (u:Int):=by rw [wrap16,Nat.mod_eq_of_lt hu9]
       have hw2:IntKind.u16.wrap (48 + (s:Int)) = 48 + (s:Int):=by
        have:=wrap16 (48 + s);rw [Nat.mod_eq_of_lt (by omega)] at this;simpa using this
       have hw3':(48 + (s:Int)) % 256 = 48 + (s:Int):=by omega
       clear hu hs hps hE16 hu9;by_cases hy0:y = 0
       ·
        have h1:¬ (0 < L3.length \/ D <= x):=fun h=>hc1.out.1 h hy0
        have n0:decide (0 < L3.length) = false:=decide_eq_false fun h=>h1 (.inl h)
        have n1:decide (D <= x) = false:=decide_eq_false fun h=>h1 (.inr h)
        have e3:=Hd (hc3.out hy0);have hy1:=Hd hy0;clear h1 CW hq1 hq2 hy0;go_wp2_with fail;refine CL.out.mono ?_;rintro e w3 ⟨rfl,rfl⟩;go_wp2;go_roundg t
        case rel=>exact ⟨L3,by rw [hE.out],by omega,hB3,by show _ = _; rw [e3.out,hy.out],hw3⟩
        case measure=>omega
       ·
        have h1:0 < L3.length \/ D <= x:=hc1.out.2 hy0;have e3:=Hd (hc2.out hy0);clear hy0;by_cases hl0:0 < L3.length
        ·
         have n0:decide (0 < L3.length) = true:=decide_eq_true hl0;clear h1;go_wp2_with fail;refine CL.out.mono ?_;rintro e w3 ⟨rfl,rfl⟩;go_wp2_with fail;refine CW.out.mono ?_;rintro e w4 ⟨rfl,hB4,hb4,_⟩;have hw4:=hw3.trans hb4;clear CW CL hB3 hcell;go_wp2;go_roundg t
         case rel=>exact ⟨L3 ++ [(48 + s).toUInt8],by rw [hE.out],by omega,hB4,by show _ = _; rw [<- e3.out,hy.out],hw4⟩
         case measure=>omega
        ·
         have n0:decide (0 < L3.length) = false:=decide_eq_false hl0;have n1:decide (D <= x) = true:=decide_eq_true (h1.resolve_left hl0);clear h1;go_wp2_with fail;refine CL.out.mono ?_;rintro e w3 ⟨rfl,rfl⟩;go_wp2_with fail;refine CW.out.mono ?_;rintro e w4 ⟨rfl,hB4,hb4,_⟩;have hw4:=hw3.trans hb4;clear CW CL hB3 hcell;go_wp2;go_roundg t
         case rel=>exact ⟨L3 ++ [(48 + s).toUInt8],by rw [hE.out],by omega,hB4,by show _ = _; rw [<- e3.out,hy.out],hw4⟩
         case measure=>omega
  ·
   have hz1:decide (0 < (limbs gk).length) = true:=by have:=limbs_len_pos (n:=gk); simp; omega
   have CB:=byLimb_any (limbs gk) gk 10000 ax cx wr (HX.out wr (New.refl _ _)) (val_limbs _) (by omega) (by omega) (by omega);have hjj:j < 2 * 1000000:=HFEW.out j (by rw [<- hg.out]; exact hz);have hgs:=grpN_succ n j;have hgq:gk / 10000 = n / 10000 ^ (j + 1):=by rw [hg.out,Nat.pow_succ,Nat.div_div_eq_div_mul]
   rw [<- hg.out] at hgs;have hlq:(limbs (gk / 10000)).length <= 1000000:=Nat.le_trans (limbs_len_mono (Nat.div_le_self _ _)) hlx;have hlt:gk / 10000 < gk:=by omega
   obtain ⟨q,hq⟩:∃ q,gk / 10000 = q:=⟨_,rfl⟩
   obtain ⟨r,hr⟩:∃ r,gk % 10000 = r:=⟨_,rfl⟩
   rw [hq] at CB hgq hlq hlt;rw [hr] at CB hgs;replace CB:=Hd CB; replace hgs:=Hd hgs; replace hgq:=Hd hgq;clear hq hr hz;go_wp2_with fail;refine CB.out.mono ?_;rintro e w2 ⟨a2,c2,rfl,hV2,hb2⟩;have HG2:=Hd (HG.out.below hb2);have HV2:=Hd hV2;have hw2:=bth hb' hb2;have HLE:Hid ((grpN n j ++ [(r:Int)]).length <= 16777216):=Hd (by rw [List.length_append,grpN_len]; simp; omega);clear hV2 CB HX hb2;go_wp2_with (at_builtin; go_must (refine wpList_append_1 rfl (.tmp 22) (.tmp 24) 49 rfl Tryz.underlying49 infoN rfl (by omega) (by omega) natC_len ag cg rfl (HG2.out.alloc _) (r:Int) (natC_one _) w2.heap.size 1 rfl (natC_cell (by simp)) (grpN n j ++ [(r:Int)]) rfl HLE.out (by have:=hw2.size; simp; omega) ?_); intro a3 c3 w3 ho3 hg3 hx3);have hw3:=below_append' (hw2.alloc hw2.size _) (HG2.out.alloc _) hg3
   have hV3:∀ V,New w.heap.size w3 V -> NatR V a2 c2 (limbs q):=fun V hV=>HV2.out V (NewBut.fresh (B:=w.heap.size) (hV.but a3) hb'.size (brf.alloc (nlr _) _) hg3 hx3 (fun g e=>(HG.out.lt e).2))
   replace ho3:=Hd ho3; replace hV3:=Hd hV3; replace hw3:=Hd hw3;clear hx3 hg3 HG2 HV2 hw2 HG;go_roundg q
   case rel=>exact ⟨j + 1,a2,a3,c2,c3,hgq,by show _ <= _; omega,rfl,by rw [hgs.out,List.length_append]; rfl,hV3.out,by rw [hgs.out]; exact ho3.out,hlq,hw3.out⟩
   case measure=>exact hlt
def textF (t:Bool × Nat × Nat):List UInt8:=if t.2.2 = 1 then textZ t.1 t.2.1 else textZ t.1 t.2.1 ++ 47 :: textN t.2.2
theorem lowest_sgnT (neg:Bool) (n d:Nat):((lowest neg n d).1 && decide (0 < (lowest neg n d).2.1)) = (lowest neg n d).1:=by
 unfold lowest
 split
 · rfl
 ·
  dsimp only
  cases neg <;> simp
theorem lowest_num_le (neg:Bool) (n d:Nat):(lowest neg n d).2.1 <= n /\ (lowest neg n d).2.2 <= d + 1:=by
 unfold lowest
 split
 · simp
 · exact ⟨Nat.div_le_self _ _,Nat.le_trans (Nat.div_le_self _ _) (by omega)⟩
theorem limbs_succ_len (d:Nat):(limbs (d + 1)).length <= (limbs d).length + 1:=by
 have:=limbs_len_add d 1;have h1:(limbs 1).length = 1:=by rw [limbs_oneT]; rfl
 rcases Nat.eq_zero_or_pos d with h | h
 · subst h; rw [h1]; omega
 · have:=limbs_len_pos.2 h; omega
theorem textZ_len (neg:Bool) (n:Nat) (h:(limbs n).length <= 2000000):(textZ neg n).length <= 10000001:=by
 have:=textN_len n h;unfold textZ
 split <;> simp <;> omega
theorem sgnZ_neg (neg:Bool) (n:Nat):decide (sgnZ neg n < 0) = (neg && decide (0 < n)):=by
 unfold sgnZ;by_cases h:n = 0
 · subst h; simp
 ·
  rw [if_neg h,decide_eq_true (show 0 < n by omega),Bool.and_true]
  cases neg <;> simp
theorem ztext_any (neg:Bool) (l:List Int) (n:Nat) (a:Option Addr) (c:Nat) (w:World) (h:NatR w a c l) (hn:val l = n) (hl:l.length <= 1000000) :
  Calls Tryz.prog 109 #[.agg #[.bool neg,.slice a l.length c]] w fun e w'=>e = .returned (.string (ofL (textZ (neg && decide (0 < n)) n))) /\ Below w.heap.size w w':=by
 have CS:=fun W (hW:Below w.heap.size w W)=>zsign_any neg l n a c W (h.ext (xbw hW)) hn (by omega)
 have CT:=fun W (hW:Below w.heap.size w W)=>ntext_any l n a c W (h.ext (xbw hW)) hn hl
 have hsg:=sgnZ_neg neg n;obtain ⟨b,hb⟩:∃ b,(neg && decide (0 < n)) = b:=⟨_,rfl⟩
 rw [hb] at hsg ⊢;obtain ⟨s,hs⟩:∃ s,sgnZ neg n = s:=⟨_,rfl⟩
 simp only [hs] at CS hsg;have hsz:(textN n).length <= 10000000:=textN_len n (by have:=limbs_len_val h.u16; rw [hn] at this; omega);replace CS:=Hd CS; replace CT:=Hd CT;clear h hn hb hs;go_enter Tryz.func109,Tryz.ntmps109;go_wp2_with fail;refine calls_gen (fun W=>Blk W w.heap.size 52 #[.bool neg,.slice a l.length c] /\ Below w.heap.size w W) ⟨by ((with_reducible repeat first|assumption|(apply bF;focus omega)|apply bS|(apply bN;focus (simp;done))|apply bA|apply bD);all_goals rfl),by go_grown⟩ ?_;rintro w0 ⟨h0,hw0⟩;refine (CS.out w0 hw0).mono ?_;rintro e w1 ⟨rfl,hb1⟩;have hw1:=bth hw0 hb1;replace h0:=h0.below' hb1;have x0:=h0.cell 0; have x1:=h0.cell 1;clear hw0 hb1 CS
 cases b
 ·
  go_wp2_with fail;refine (CT.out w1 hw1).mono ?_;rintro e w2 ⟨rfl,hb2⟩;go_wp2;go_ret;exact ⟨rfl,bth hw1 hb2⟩
 ·
  go_wp2_with fail;refine (CT.out w1 hw1).mono ?_;rintro e w2 ⟨rfl,hb2⟩;rw [<- ofL_size] at hsz;have e45:(⟨#[45]⟩:ByteArray) ++ ofL (textN n) = ofL (45 :: textN n):=ofL_app [45] _;replace e45:=Hd e45;go_wp2;go_ret;exact ⟨ret_str e45.out,bth hw1 hb2⟩
theorem qtext_any (neg:Bool) (l m:List Int) (n d:Nat) (a b:Option Addr) (c d0:Nat) (w:World) (h:NatR w a c l) (h':NatR w b d0 m) (hn:val l = n) (hk:val m = d) (hl:l.length <= 1000000) (hm:m.length <= 999999) (hd:d ≠ 0) :
  Calls Tryz.prog 60 #[.agg #[.bool neg,.slice a l.length c,.slice b m.length d0]] w fun e w'=>e = .returned (.string (ofL (textF (lowest neg n d)))) /\ Below w.heap.size w w':=by
 have CP:=fun W (hW:Below w.heap.size w W)=>parts_any neg l m a b c d0 W (h'.ext (xbw hW)) (by rw [hk]; exact hd) (by omega)
 have CN:=fun W (hW:Below w.heap.size w W)=>reduced_any neg l m n d a b c d0 W (h.ext (xbw hW)) (h'.ext (xbw hW)) hn hk (by omega) (by omega)
 have hsg:=lowest_sgnT neg n d;obtain ⟨hN1,hD1⟩:=lowest_num_le neg n d;have hln:(limbs n).length <= 1000000:=by have:=limbs_len_val h.u16; rw [hn] at this; omega
 have hld:(limbs d).length <= 999999:=by have:=limbs_len_val h'.u16; rw [hk] at this; omega
 obtain ⟨t,ht⟩:∃ t,lowest neg n d = t:=⟨_,rfl⟩
 simp only [ht] at CN hsg hN1 hD1 ⊢;obtain ⟨s,N,D⟩:=t;have hlN:(limbs N).length <= 1000000:=Nat.le_trans (limbs_len_mono hN1) hln;have hlD:(limbs D).length <= 1000000:=Nat.le_trans (limbs_len_mono hD1) (Nat.le_trans (limbs_succ_len d) (by omega));unfold RetF RetQ at CN;unfold textF;dsimp only at CN hsg ⊢;replace CN:=Hd CN; replace CP:=Hd CP;clear h h' hn hk ht hN1 hD1 hd;go_enter Tryz.func60,Tryz.ntmps60;go_wp2_with fail;refine calls_gen (fun W=>Below w.heap.size w W) (by go_grown) ?_;rintro w0 hw0;refine (CP.out w0 hw0).mono ?_;rintro e w1 ⟨rfl,hb1⟩;have hw1:=bth hw0 hb1;clear CP hw0 hb1;have hs1:=hw1.size;go_wp2_with fail;refine calls_gen (fun W=>Below w.heap.size w W) (by go_grown) ?_;rintro w2 hw2;refine (CN.out w2 hw2).mono ?_;rintro e w3 ⟨na,nc,da,dc,rfl,hV1,hV2,hb3⟩;have hw3:=bth hw2 hb3;have K1:=fun (V:World) (hV:Below w3.heap.size w3 V)=>hV1 V ((New.refl _ V).below hV)
 have K2:=fun (V:World) (hV:Below w3.heap.size w3 V)=>hV2 V ((New.refl _ V).below hV)
 have CO:=fun V hV=>one_any (limbs D) da dc V (K2 V hV)
 have CT1:=fun V hV=>ztext_any s (limbs N) N na nc V (K1 V hV) (val_limbs _) hlN
 have CT2:=fun V hV=>ntext_any (limbs D) D da dc V (K2 V hV) (val_limbs _) hlD
 rw [hsg] at CT1;rw [one_limbs] at CO;replace CO:=Hd CO; replace CT1:=Hd CT1; replace CT2:=Hd CT2;clear CN hw2 hb3 hV1 hV2 K1 K2 hs1;have hs3:=hw3.size;go_wp2_with fail;refine calls_gen (fun W=>Blk W w3.heap.size 54 #[.bool s,.slice na (limbs N).length nc,.slice da (limbs D).length dc] /\ Below w3.heap.size w3 W) ⟨by ((with_reducible repeat first|assumption|(apply bF;focus omega)|apply bS|(apply bN;focus (simp;done))|apply bA|apply bD);all_goals rfl),by go_grown⟩ ?_;rintro w4 ⟨h4,hw4⟩;refine (CO.out w4 hw4).mono ?_;rintro e w5 ⟨rfl,hb5⟩;have hw5:=bth hw4 hb5;replace h4:=h4.below' hb5;have x0:=h4.cell 0; have x1:=h4.cell 1; have x2:=h4.cell 2;clear hw4 hb5 CO;by_cases h1:D = 1
 ·
  have d1:decide (D = 1) = true:=decide_eq_true h1;have HD:=Hd h1;clear h1;go_wp2_with fail;refine (CT1.out w5 hw5).mono ?_;rintro e w6 ⟨rfl,hb6⟩;go_wp2;go_ret;exact ⟨rfl,bth hw3 (bth hw5 hb6)⟩
 ·
  have d1:decide (D = 1) = false:=decide_eq_false h1;have HD:=Hd h1;have k0:=held x0; have k1:=held x1; have k2:=held x2;have hsz1:(ofL (textZ s N)).size <= 10000001:=by rw [ofL_size]; exact textZ_len s N (by omega)
  have hsz2:(ofL (textN D)).size <= 10000000:=by rw [ofL_size]; exact textN_len D (by omega)
  have hsz3:(ofL (textZ s N)).size + 1 <= 10000002:=by omega
  have hsz4:(ofL (textZ s N)).size + 1 + (ofL (textN D)).size <= 20000002:=by omega
  have hn3:¬ 9223372036854775807 < (ofL (textZ s N)).size + 1:=by omega
  have hn4:¬ 9223372036854775807 < (ofL (textZ s N)).size + 1 + (ofL (textN D)).size:=by omega
  have hfin:ofL (textZ s N) ++ ⟨#[47]⟩ ++ ofL (textN D) = ofL (textZ s N ++ 47 :: textN D):=by
   show ofL (textZ s N) ++ ofL [47] ++ ofL (textN D) = _
   rw [ofL_app,ofL_app,List.append_assoc]; rfl
  have HFIN:=Hd hfin;clear hfin h1 x0 x1 x2;go_wp2;have t0:Below w5.heap.size w5 w5.drew:=brf.drew;refine wp_region_mix (S:=Below w5.heap.size w5) [(0,.q),(1,.q),(4,.q),(5,.q),(2,.l),(3,.q),(6,.l),(7,.p),(8,.p)] (by kernel_rfl) (by kernel_rfl) (by kernel_rfl) (fun d _ _ _ _ h=>by cases d <;> exact h) (t0) ?_
  iterate 4 (refine wpMix_q rfl rfl (fun K hK=>?_); apply Exists.intro; refine ⟨fun w' hw'=>?_,?_⟩; (focus (go_simp; try rfl)); go_simp; refine hK _ _ ?_; clear hK K)
  refine wpMix_l rfl rfl (fun K hK=>?_);go_simp;refine (CT1.out _ (bth hw5 t0)).mono ?_;rintro r w6 ⟨rfl,hb6⟩;dsimp only;refine hK.out _ _ (bth t0 hb6) (fun _=>?_);clear hK K;have t6:=bth t0 hb6
  iterate 1 (refine wpMix_q rfl rfl (fun K hK=>?_); apply Exists.intro; refine ⟨fun w' hw'=>?_,?_⟩; (focus (go_simp; try rfl)); go_simp; refine hK _ _ ?_; clear hK K)
  refine wpMix_l rfl rfl (fun K hK=>?_);go_simp;refine (CT2.out _ (bth hw5 t6)).mono ?_;rintro r w7 ⟨rfl,hb7⟩;dsimp only;refine hK.out _ _ (bth t6 hb7) (fun _=>?_);clear hK K;have t7:=bth t6 hb7
  iterate 2 (refine wpMix_p rfl rfl (fun K hK=>?_); apply Exists.intro; refine ⟨fun w'=>?_,?_⟩; (focus (go_simp; try rfl)); go_simp; refine hK _ _ ?_; clear hK K)
  refine wpMix_nil ?_;go_wp2;go_ret;exact ⟨ret_str HFIN.out,bth hw3 (bth hw5 t7)⟩
def Rt.q (r:Rt):Rat:=qv r.neg (Go.Proofs.YtkjnkpkagcboeaaGreatDoor.val r.num) (Go.Proofs.YtkjnkpkagcboeaaGreatDoor.val r.den)
def RtZ (w:World) (r:Rt) (z:QA):Prop:=z.neg = r.neg /\ z.n = r.num.length /\ z.m = r.den.length /\ NatR w z.a z.c r.num /\ NatR w z.b z.d r.den
theorem right_trip {r:Rt} (h:r.right = true):r.neg = decide (r.q.num < 0) /\ limbs r.q.num.natAbs = r.num /\ limbs r.q.den = r.den:=by
 unfold Rt.right rightI canonB at h;simp only [Bool.and_eq_true,decide_eq_true_eq,Bool.not_eq_true',Bool.and_eq_false_iff,decide_eq_false_iff_not] at h;obtain ⟨⟨⟨⟨h1,h2⟩,h3⟩,h4⟩,h5⟩:=h;have e:=lowest_qv r.neg (Go.Proofs.YtkjnkpkagcboeaaGreatDoor.val r.num) (Go.Proofs.YtkjnkpkagcboeaaGreatDoor.val r.den);have hd:Go.Proofs.YtkjnkpkagcboeaaGreatDoor.val r.den ≠ 0:=by
  intro e0;rw [e0,limbs_zero] at h3;rw [<- h3] at h5;simp at h5
 have e2:lowest r.neg (Go.Proofs.YtkjnkpkagcboeaaGreatDoor.val r.num) (Go.Proofs.YtkjnkpkagcboeaaGreatDoor.val r.den) = (r.neg,Go.Proofs.YtkjnkpkagcboeaaGreatDoor.val r.num,Go.Proofs.YtkjnkpkagcboeaaGreatDoor.val r.den):=by
  by_cases h0:Go.Proofs.YtkjnkpkagcboeaaGreatDoor.val r.num = 0
  ·
   have hn:r.num.length = 0:=by rw [<- h1,h0,limbs_zero]; rfl
   have hneg:r.neg = false:=by
    rcases h2 with h2 | h2
    · exact h2
    · exact (h2 hn).elim
   have hd1:Go.Proofs.YtkjnkpkagcboeaaGreatDoor.val r.den = 1:=by rw [h0,Nat.gcd_zero_left] at h4; exact h4
   rw [h0,hneg,hd1]
   rfl
  · exact lowest_one h0 hd h4
 rw [e2] at e;unfold trip at e;simp only [Prod.mk.injEq] at e;unfold Rt.q;refine ⟨e.1,?_,?_⟩
 · rw [<- e.2.1,h1]
 · rw [<- e.2.2,h3]
theorem RtZ.qac {w:World} {r:Rt} {z:QA} (h:RtZ w r z) (hr:r.right = true):QAc w z r.q /\ qsz r.q = max r.num.length r.den.length:=by
 obtain ⟨e1,e2,e3⟩:=right_trip hr;obtain ⟨z1,z2,z3,z4,z5⟩:=h;refine ⟨⟨by rw [z1,e1],by rw [z2,e2],by rw [z3,e3],by rw [e2]; exact z4,by rw [e3]; exact z5⟩,?_⟩;unfold qsz;rw [e2,e3]
end Go.Proofs.YtkjnkpkagcboeaaGreatDoor
