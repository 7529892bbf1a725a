/- Walks: the text of natural numbers, integers and rational numbers by the reference. -/
import Derived.Test.YtdnblkklgdnapaaGreatDoorCt9
import Derived.Test.YtdnblkklgdnapaaGreatDoorCt3
import Derived.Test.YtdnblkklgdnapaaGreatDoorCt6
import Derived.Test.YtdnblkklgdnapaaGreatDoorCt10
import Derived.Test.YtdnblkklgdnapaaGreatDoorCt1
import Derived.Test.YtdnblkklgdnapaaGreatDoorRows
import Derived.Deep.QuietTactic
import Derived.BigQuiet
import Derived.Deep.Upon
import Derived.Test.YtdnblkklgdnapaaGreatDoorCt8
import Derived.Lib.SplitLaws
import Derived.Test.YtdnblkklgdnapaaGreatDoorCt7
import Derived.Laws.IdiomStrings
set_option linter.all false
set_option maxRecDepth 100000
set_option maxHeartbeats 4000000
namespace Go.Proofs.YtdnblkklgdnapaaGreatDoor
open Go.RowKit
theorem qsignR_any (neg : Bool) (l m : List Int) (n : Nat) (a a' : Option Addr) (c c' : Nat) (w : World) (h : NatR w a c l) (h' : NatR w a' c' m) (hn : val l = n) (h0 : val m ≠ 0) (hl : l.length <= 2000000) (hm : m.length <= 2000000) :
  Calls Tryz.prog 58 #[.agg #[.bool neg, .slice a l.length c, .slice a' m.length c']] w fun e w' => e = .returned (.int .i64 (sgnZ neg n)) /\ Below w.heap.size w w' := by
 have CN := fun W (hW : Below w.heap.size w W) => qnormR_any neg l m n (val m) a a' c c' W (h.ext (xbw hW)) (h'.ext (xbw hW)) hn rfl hl hm
 have hs := lowest_sgn neg n (val m) h0
 have q1 := limbs_len_val h.u16
 rw [hn] at q1
 have r1 := limbs_len_mono (lowest_num neg n (val m))
 obtain ⟨t, ht⟩ : ∃ t, lowest neg n (val m) = t := ⟨_, rfl⟩
 rw [ht] at CN hs r1
 obtain ⟨s, N, D⟩ := t
 unfold RetF at CN
 dsimp only at CN hs r1
 have CS := fun b cb W (hV : NatR W b cb (limbs N)) => zsignR_any s (limbs N) N b cb W hV (val_limbs _) (by omega)
 rw [hs] at CS
 obtain ⟨R, hR⟩ : ∃ q, sgnZ neg n = q := ⟨_, rfl⟩
 rw [hR] at CS ⊢
 replace CN := Hd CN; replace CS := Hd CS
 have hz : Blk (w.alloc (.cells #[.bool neg, .slice a l.length c, .slice a' m.length c'] 64)) w.heap.size 64 #[.bool neg, .slice a l.length c, .slice a' m.length c'] := Blk.new w _ _
 have hb0 : Below w.heap.size w (w.alloc (.cells #[.bool neg, .slice a l.length c, .slice a' m.length c'] 64)) := brf.alloc (nlr _) _
 have hfl := fun a1 a2 c1 c2 W => rat_num s a1 (limbs N).length c1 a2 (limbs D).length c2 W
 clear h h' hn h0 hR ht hs r1 q1
 go_enter Tryz.func58, Tryz.ntmps58
 go_wp2_with fail
 revert hz hb0
 generalize w.alloc (.cells #[.bool neg, .slice a l.length c, .slice a' m.length c'] 64) = w0
 intro hz hb0
 have z0 := hz.cell 0; have z1 := hz.cell 1; have z2 := hz.cell 2
 go_wp2_with fail
 refine (CN.out _ hb0).mono ?_
 rintro e w1 ⟨a1, c1, a2, c2, rfl, hV1, hV2, hb1⟩
 have hw1 := bth hb0 hb1
 have CS1 := CS.out a1 c1 w1 (hV1 w1 (New.refl _ _))
 replace CS1 := Hd CS1
 have hf := hfl a1 a2 c1 c2 w1
 clear hV1 hV2 hb1 z0 z1 z2 hz hb0 hfl
 go_wp2_with fail
 refine CS1.out.mono ?_
 rintro e w2 ⟨rfl, hb2⟩
 go_wp2
 go_ret
 exact ⟨rfl, bth hw1 hb2⟩
def maskAt (acc : List Nat) (j : Nat) : Nat := if j < acc.length then acc.getD (acc.length - 1 - j) 0 else 0
def maskOf (md : Region.Mode) (acc : List Nat) (o : Oper) : Nat := o.after.toList.foldl (fun m e => if Region.binds md e then m ||| (2 ^ e.on ||| maskAt acc e.on) else m) 0
def goM (md : Region.Mode) (k : List Nat -> Bool) : List Oper -> List Nat -> Bool
 | [], acc => k acc
 | o :: r, acc => match maskOf md acc o with
  | 0 => goM md k r (0 :: acc)
  | m + 1 => goM md k r ((m + 1) :: acc)
def orderM (md : Region.Mode) (ops : Array Oper) (l : List (Nat × Mode4)) : Bool :=
 goM md (fun acc => l.all fun x => match x.2 with
  | .q => l.all fun y => !y.2.tail || (maskAt acc y.1).testBit x.1
  | _ => true) ops.toList []
def GoodM (md : Region.Mode) (ops : Array Oper) (acc : List Nat) : Prop := ∀ j i, (maskAt acc j).testBit i = true -> ∀ n, j < n -> dep md ops n j i = true
theorem fold_bit {md : Region.Mode} {acc : List Nat} {i : Nat} : ∀ (l : List Edge) (m : Nat), (l.foldl (fun m e => if Region.binds md e then m ||| (2 ^ e.on ||| maskAt acc e.on) else m) m).testBit i = true ->
  m.testBit i = true \/ ∃ e ∈ l, Region.binds md e = true /\ (e.on = i \/ (maskAt acc e.on).testBit i = true)
 | [], m, h => .inl h
 | e :: l, m, h => by
  rw [List.foldl_cons] at h
  rcases fold_bit l _ h with h1 | ⟨e', he, h2⟩
  ·
   by_cases hb : Region.binds md e = true
   ·
    rw [if_pos hb, Nat.testBit_or, Bool.or_eq_true] at h1
    rcases h1 with h1 | h1
    · exact .inl h1
    ·
     rw [Nat.testBit_or, Bool.or_eq_true] at h1
     refine .inr ⟨e, by simp, hb, ?_⟩
     rcases h1 with h1 | h1
     · left; rw [Nat.testBit_two_pow] at h1; simpa using h1
     · exact .inr h1
   ·
    rw [if_neg hb] at h1
    exact .inl h1
  · exact .inr ⟨e', by simp [he], h2⟩
theorem GoodM.step {md : Region.Mode} {ops : Array Oper} {acc : List Nat} {o : Oper} (h : GoodM md ops acc) (ho : ops[acc.length]? = some o) : GoodM md ops (maskOf md acc o :: acc) := by
 intro j i hj n hn
 unfold maskAt at hj
 split at hj
 ·
  next hlt =>
  rw [List.length_cons] at hlt
  by_cases hje : j = acc.length
  ·
   subst hje
   have : (maskOf md acc o :: acc).getD ((maskOf md acc o :: acc).length - 1 - acc.length) 0 = maskOf md acc o := by simp
   rw [this] at hj
   rcases fold_bit _ _ hj with h1 | ⟨e, he, hb, h1⟩
   · simp at h1
   ·
    cases n with
    | zero => omega
    | succ n =>
     unfold dep
     rw [ho]
     dsimp only
     rw [Array.any_eq_true']
     refine ⟨e, by simpa using he, ?_⟩
     rw [hb, Bool.true_and, Bool.or_eq_true]
     rcases h1 with h1 | h1
     · left; simpa using h1
     ·
      right
      have hlt2 : e.on < acc.length := by
       unfold maskAt at h1
       split at h1
       · assumption
       · simp at h1
      exact h _ _ h1 n (by omega)
  ·
   have : (maskOf md acc o :: acc).getD ((maskOf md acc o :: acc).length - 1 - j) 0 = maskAt acc j := by
    unfold maskAt
    rw [if_pos (by omega), List.length_cons, show acc.length + 1 - 1 - j = (acc.length - 1 - j) + 1 by omega, List.getD_cons_succ]
   rw [this] at hj
   exact h _ _ hj n hn
 · simp at hj
theorem goM_good {md : Region.Mode} {ops : Array Oper} {k : List Nat -> Bool} : ∀ (r : List Oper) (acc : List Nat), GoodM md ops acc -> (∀ j, r[j]? = ops[acc.length + j]?) -> goM md k r acc = true ->
  ∃ acc', GoodM md ops acc' /\ k acc' = true
 | [], acc, hg, _, h => ⟨acc, hg, h⟩
 | o :: r, acc, hg, hr, h => by
  have ho : ops[acc.length]? = some o := by have := hr 0; simpa using this.symm
  have hs := hg.step ho
  unfold goM at h
  have hr' : ∀ j, r[j]? = ops[acc.length + 1 + j]? := fun j => by have := hr (j + 1); rw [List.getElem?_cons_succ] at this; rw [this]; congr 1; omega
  split at h
  ·
   next hm =>
   rw [hm] at hs
   exact goM_good r _ hs hr' h
  ·
   next m hm =>
   rw [hm] at hs
   exact goM_good r _ hs hr' h
theorem orderB_of_M {md : Region.Mode} {ops : Array Oper} {l : List (Nat × Mode4)} (hd : decide (l.map (·.1)).Nodup = true) (hin : (l.all fun x => decide (x.1 < ops.size)) = true) (h : orderM md ops l = true) : orderB md ops l = true := by
 obtain ⟨acc, hg, hk⟩ := goM_good (ops := ops) ops.toList [] (fun j i hj => by simp [maskAt] at hj) (fun j => by simp) h
 unfold orderB
 rw [hd, Bool.true_and, List.all_eq_true]
 rw [List.all_eq_true] at hk hin
 intro x hx
 have h1 := hk x hx
 obtain ⟨xi, xm⟩ := x
 cases xm with
 | q =>
  dsimp only at h1 ⊢
  rw [List.all_eq_true] at h1 ⊢
  intro y hy
  have h2 := h1 y hy
  rw [Bool.or_eq_true] at h2 ⊢
  rcases h2 with h2 | h2
  · exact .inl h2
  · exact .inr (hg _ _ h2 _ (by simpa using hin y hy))
 | p => rfl
 | l => rfl
 | t => rfl
section
variable {P : Program} {ops : Array Oper} {Q : Exit -> Act -> World -> Prop} {S : World -> Prop}
theorem wp_region_mixM {id : Nat} {a : Act} {w : World} (l : List (Nat × Mode4)) (hm : P.follows .mixedOrders = true) (hs : Region.noSelect ops = true)
  (hB : ((l.length == ops.size && (decide (l.map (·.1)).Nodup && l.all fun x => decide (x.1 < ops.size))) && (orderM .any ops l && (lateB l false && mixB .any ops l (Array.replicate ops.size false)))) = true)
  (hQ : ∀ d v c a w, Q (.panic c) (a.put d v) w -> Q (.panic c) a w) (hS : S w.drew) (h : wpMix P ops Q S l a w.drew) : (Code.region id ops true).wp P Q a w := by
 simp only [Bool.and_eq_true] at hB
 obtain ⟨⟨h1, h2, h3⟩, h4, h5, h6⟩ := hB
 refine wp_region_mix l hm hs ?_ hQ hS h
 rw [h1, orderB_of_M h2 h3 h4, h5, h6]; rfl
end
theorem rightI_any (neg : Bool) (num : List Int) (a : Option Addr) (c : Nat) (w : World) (h : NatR w a c num) :
  Calls Tryz.prog 182 #[.agg #[.bool neg, .slice a num.length c]] w fun e w' => e = .returned (.bool (rightI neg num)) /\ Below w.heap.size w w' := by
 have hlen := h.len
 have hu := h.u16
 have hb0 : Below w.heap.size w (w.alloc (.cells #[.bool neg, .slice a num.length c] 62)) := brf.alloc (nlr _) _
 by_cases h0 : num.length = 0
 ·
  obtain rfl : num = [] := List.length_eq_zero_iff.1 h0
  have hr : rightI neg [] = !neg := by simp [rightI, canonB, val, limbs_zero]
  rw [hr]
  clear h hu h0 hr
  cases neg
  all_goals
   go_enter Tryz.func182, Tryz.ntmps182
   go_wp2
   go_ret
   exact ⟨rfl, hb0⟩
 ·
  obtain ⟨x, hx⟩ := get_of_lt (xs := num) (k := num.length - 1) (by omega)
  obtain ⟨b, off, rfl, hc⟩ := h.cell hx
  have hcan := canonB_last hu hx (by omega)
  have hr : rightI neg num = !(x == 0) := by
   unfold rightI
   rw [hcan]
   simp [h0]
  rw [hr]
  have hk := held hc
  have hbl : b < w.heap.size := by have := World.block_lt_of_cell? w _ hc; simpa using this
  have hbl2 : b < w.heap.size + 1 := by omega
  have hi1 : (0 : Int) <= (num.length : Int) - 1 := by omega
  have hti : ((num.length : Int) - 1).toNat = num.length - 1 := by omega
  have hgt : decide (0 < num.length) = true := by rw [decide_eq_true_eq]; omega
  have hgt2 : decide ((0 : Int) < (num.length : Int)) = true := by rw [decide_eq_true_eq]; omega
  have he : ((num.length : Int) == 0) = false := by rw [beq_eq_false_iff_ne]; omega
  clear h hu hx hc hcan hr
  by_cases hx0 : x = 0
  ·
   subst hx0
   go_enter Tryz.func182, Tryz.ntmps182
   go_wp2
   go_ret
   exact ⟨rfl, hb0⟩
  ·
   have hxb : (x == 0) = false := by simpa using hx0
   have hxn : (x != 0) = true := by simpa using hx0
   rw [hxb]
   clear hx0
   go_enter Tryz.func182, Tryz.ntmps182
   go_wp2
   go_ret
   exact ⟨rfl, hb0⟩
theorem rt_right_one {neg : Bool} {num den : List Int} (hI : rightI neg num = true) (hc : canonB den = true) (h0 : 0 < den.length) (h1 : decide (den.length = 1 /\ limbAt den 0 = 1) = true) : Rt.right ⟨neg, num, den⟩ = true := by
 rw [decide_eq_true_eq] at h1
 obtain ⟨h1, h2⟩ := h1
 match den, h1 with
 | [x], _ =>
  simp [limbAt] at h2
  subst h2
  simp [Rt.right, hI, hc, val]
theorem rt_right_gcd {neg : Bool} {num den : List Int} (hI : rightI neg num = true) (hc : canonB den = true) (h0 : 0 < den.length) : Rt.right ⟨neg, num, den⟩ = decide (Nat.gcd (val num) (val den) = 1) := by
 simp [Rt.right, hI, hc, h0]
theorem rightQ_any (r : Rt) (na : Option Addr) (nc : Nat) (da : Option Addr) (dc : Nat) (w : World) (h : NatR w na nc r.num) (h' : NatR w da dc r.den) (hl : r.num.length <= 2000000) (hm : r.den.length <= 2000000) :
  Calls Tryz.prog 99 #[r.val na nc da dc] w fun e w' => e = .returned (.bool r.right) /\ Below w.heap.size w w' := by
 obtain ⟨neg, num, den⟩ := r
 have CR := fun W (hW : Below w.heap.size w W) => rightI_any neg num na nc W (h.ext (xbw hW))
 have CO := fun W (hW : Below w.heap.size w W) => one_any den da dc W (h'.ext (xbw hW))
 have CG := fun W (hW : Below w.heap.size w W) => gcd_any num den (val num) (val den) na da nc dc W (h.ext (xbw hW)) (h'.ext (xbw hW)) rfl rfl hl hm
 have CO2 := fun n a c W => one_any (limbs n) a c W
 simp only [one_limbs] at CO2
 unfold Rt.val
 dsimp only
 dsimp only at hl hm
 obtain ⟨res, hres⟩ : ∃ q, Rt.right ⟨neg, num, den⟩ = q := ⟨_, rfl⟩
 rw [hres]
 obtain ⟨b1, hb1⟩ : ∃ b, rightI neg num = b := ⟨_, rfl⟩
 rw [hb1] at CR
 replace CR := Hd CR; replace CO := Hd CO; replace CG := Hd CG; replace CO2 := Hd CO2
 have hw0 : Below w.heap.size w (w.alloc (.cells #[.bool neg, .slice na num.length nc, .slice da den.length dc] 64)) := brf.alloc (nlr _) _
 have hz : Blk (w.alloc (.cells #[.bool neg, .slice na num.length nc, .slice da den.length dc] 64)) w.heap.size 64 #[.bool neg, .slice na num.length nc, .slice da den.length dc] := Blk.new w _ _
 cases b1
 ·
  have hr : res = false := by rw [<- hres]; simp [Rt.right, hb1]
  subst hr
  clear hres hb1 h h' hz
  go_enter Tryz.func99, Tryz.ntmps99
  go_wp2_with fail
  refine (CR.out _ hw0).mono ?_
  rintro e w1 ⟨rfl, hb⟩
  have hw1 := bth hw0 hb
  go_wp2
  go_ret
  exact ⟨rfl, hw1⟩
 ·
  by_cases h0 : den.length = 0
  ·
   have hr : res = false := by rw [<- hres]; simp [Rt.right, h0]
   subst hr
   obtain rfl : den = [] := List.length_eq_zero_iff.1 h0
   clear hres hb1 h h' hz h0
   go_enter Tryz.func99, Tryz.ntmps99
   go_wp2_with fail
   refine (CR.out _ hw0).mono ?_
   rintro e w1 ⟨rfl, hb⟩
   have hw1 := bth hw0 hb
   go_wp2
   go_ret
   exact ⟨rfl, hw1⟩
  ·
   obtain ⟨x, hx⟩ := get_of_lt (xs := den) (k := den.length - 1) (by omega)
   obtain ⟨b, off, rfl, hc⟩ := h'.cell hx
   have hcan := canonB_last (l := den) h'.u16 hx (by omega)
   have hk := held hc
   have hi1 : (0 : Int) <= (den.length : Int) - 1 := by omega
   have hti : ((den.length : Int) - 1).toNat = den.length - 1 := by omega
   have hdl : (den.length : Int) <= 2000000 := by omega
   have he : ((den.length : Int) == 0) = false := by rw [beq_eq_false_iff_ne]; omega
   by_cases hx0 : x = 0
   ·
    subst hx0
    have hr : res = false := by rw [<- hres]; simp [Rt.right, hcan]
    subst hr
    clear hres hb1 h h' hx hc hcan h0
    go_enter Tryz.func99, Tryz.ntmps99
    go_wp2_with fail
    revert hw0 hz
    generalize w.alloc (.cells #[.bool neg, .slice na num.length nc, .slice (some ⟨b, off, none⟩) den.length dc] 64) = w0
    intro hw0 hz
    refine (CR.out _ hw0).mono ?_
    rintro e w1 ⟨rfl, hb⟩
    have hw1 := bth hw0 hb
    have hz1 := hz.below' hb
    have z1 := hz1.cell 1; have z2 := hz1.cell 2; have z0 := hz1.cell 0
    have k1 := hk _ hw1
    clear hb hz hw0
    go_wp2
    go_ret
    exact ⟨rfl, hw1⟩
   ·
    have hxb : (x == 0) = false := by simpa using hx0
    have hcan2 : canonB den = true := by rw [hcan, hxb]; rfl
    obtain ⟨bo, hbo⟩ : ∃ q, decide (den.length = 1 /\ limbAt den 0 = 1) = q := ⟨_, rfl⟩
    rw [hbo] at CO
    have HRES := Hd hres
    have HB1 := Hd hb1
    have HC := Hd hcan2
    have HBO := Hd hbo
    have H0 := Hd h0
    clear hres hb1 h h' hx hc hcan hcan2 hbo h0 hx0
    cases bo
    ·
     obtain ⟨g, hg⟩ : ∃ g, Nat.gcd (val num) (val den) = g := ⟨_, rfl⟩
     have hr : decide (g = 1) = res := by rw [<- HRES.out, rt_right_gcd HB1.out HC.out (by have := H0.out; omega)]; simp only [hg]
     rw [hg] at CG
     have CO3 := CO2.out g
     rw [hr] at CO3
     replace CO3 := Hd CO3
     clear hg hr CO2
     go_enter Tryz.func99, Tryz.ntmps99
     go_wp2_with fail
     revert hw0 hz
     generalize w.alloc (.cells #[.bool neg, .slice na num.length nc, .slice (some ⟨b, off, none⟩) den.length dc] 64) = w0
     intro hw0 hz
     refine (CR.out _ hw0).mono ?_
     rintro e w1 ⟨rfl, hb⟩
     have hw1 := bth hw0 hb
     have hz1 := hz.below' hb
     have z1 := hz1.cell 1; have z2 := hz1.cell 2; have z0 := hz1.cell 0
     have k1 := hk _ hw1
     clear hb hz hw0
     go_wp2_with fail
     refine (CO.out _ hw1).mono ?_
     rintro e w2 ⟨rfl, hb⟩
     have hw2 := bth hw1 hb
     have hz2 := hz1.below' hb
     have y1 := hz2.cell 1; have y2 := hz2.cell 2; have y0 := hz2.cell 0
     clear hb hz1 hw1 z0 z1 z2 k1
     go_wp2_with fail
     refine (CG.out _ hw2).mono ?_
     rintro e w3 ⟨a3, c3, rfl, hV, hb⟩
     have hw3 := bth hw2 hb
     have hrd := hV w3 (New.refl _ _)
     clear hb hV y0 y1 y2
     go_wp2_with fail
     refine (CO3.out _ _ _ hrd).mono ?_
     rintro e w4 ⟨rfl, hb⟩
     have hw4 := bth hw3 hb
     clear hrd hb
     go_wp2
     go_ret
     exact ⟨rfl, hw4⟩
    ·
     have hr : res = true := by rw [<- HRES.out]; exact rt_right_one HB1.out HC.out (by have := H0.out; omega) HBO.out
     subst hr
     go_enter Tryz.func99, Tryz.ntmps99
     go_wp2_with fail
     revert hw0 hz
     generalize w.alloc (.cells #[.bool neg, .slice na num.length nc, .slice (some ⟨b, off, none⟩) den.length dc] 64) = w0
     intro hw0 hz
     refine (CR.out _ hw0).mono ?_
     rintro e w1 ⟨rfl, hb⟩
     have hw1 := bth hw0 hb
     have hz1 := hz.below' hb
     have z1 := hz1.cell 1; have z2 := hz1.cell 2; have z0 := hz1.cell 0
     have k1 := hk _ hw1
     clear hb hz hw0
     go_wp2_with fail
     refine (CO.out _ hw1).mono ?_
     rintro e w2 ⟨rfl, hb⟩
     have hw2 := bth hw1 hb
     go_wp2
     go_ret
     exact ⟨rfl, hw2⟩
theorem lex_any (s t : Trm) (p q : RA) (w : World) (h : IntsR w p.aa p.ac s.mono) (h' : IntsR w q.aa q.ac t.mono) :
  Calls Tryz.prog 101 #[s.val p, t.val q] w fun e w' => e = .returned (.int .i64 (lexI s.mono t.mono)) /\ Below w.heap.size w w' := by
 have CC := fun W (hW : Below w.heap.size w W) => cmpP5_any s.mono t.mono p.aa q.aa p.ac q.ac W (h.ext (xbw hW)) (h'.ext (xbw hW))
 revert CC
 generalize lexI s.mono t.mono = R
 intro CC
 replace CC := Hd CC
 unfold Trm.val
 have hx : Blk ((w.alloc (.cells #[.bool s.coef.neg, .slice p.na s.coef.num.length p.nc, .slice p.da s.coef.den.length p.dc, .slice p.aa s.mono.length p.ac] 98)).alloc (.cells #[.bool t.coef.neg, .slice q.na t.coef.num.length q.nc, .slice q.da t.coef.den.length q.dc, .slice q.aa t.mono.length q.ac] 98)) w.heap.size 98 #[.bool s.coef.neg, .slice p.na s.coef.num.length p.nc, .slice p.da s.coef.den.length p.dc, .slice p.aa s.mono.length p.ac] := (Blk.new w _ _).alloc _
 have hy : Blk ((w.alloc (.cells #[.bool s.coef.neg, .slice p.na s.coef.num.length p.nc, .slice p.da s.coef.den.length p.dc, .slice p.aa s.mono.length p.ac] 98)).alloc (.cells #[.bool t.coef.neg, .slice q.na t.coef.num.length q.nc, .slice q.da t.coef.den.length q.dc, .slice q.aa t.mono.length q.ac] 98)) (w.heap.size + 1) 98 #[.bool t.coef.neg, .slice q.na t.coef.num.length q.nc, .slice q.da t.coef.den.length q.dc, .slice q.aa t.mono.length q.ac] := blk_at1 w _ _ _
 have hb0 : Below w.heap.size w ((w.alloc (.cells #[.bool s.coef.neg, .slice p.na s.coef.num.length p.nc, .slice p.da s.coef.den.length p.dc, .slice p.aa s.mono.length p.ac] 98)).alloc (.cells #[.bool t.coef.neg, .slice q.na t.coef.num.length q.nc, .slice q.da t.coef.den.length q.dc, .slice q.aa t.mono.length q.ac] 98)) := by go_grown
 clear h h'
 go_enter Tryz.func101, Tryz.ntmps101
 go_wp2_with fail
 revert hx hy hb0
 generalize (w.alloc (.cells #[.bool s.coef.neg, .slice p.na s.coef.num.length p.nc, .slice p.da s.coef.den.length p.dc, .slice p.aa s.mono.length p.ac] 98)).alloc (.cells #[.bool t.coef.neg, .slice q.na t.coef.num.length q.nc, .slice q.da t.coef.den.length q.dc, .slice q.aa t.mono.length q.ac] 98) = w0
 intro hx hy hb0
 have z3 := hx.cell 3; have y3 := hy.cell 3
 go_wp2_with fail
 refine (CC.out _ hb0).mono ?_
 rintro e w1 ⟨rfl, rfl⟩
 go_wp2
 go_ret
 exact ⟨rfl, hb0⟩
theorem all_succ {P : Nat -> Prop} {k : Nat} (h : ∀ j, j < k -> P j) (hk : P k) : ∀ j, j < k + 1 -> P j := fun j hj => by
 by_cases hjk : j = k
 · subst hjk; exact hk
 · exact h j (by omega)
theorem okT_coef {t : Trm} (h : t.coef.right = false) : okT t = false := by unfold okT; rw [h]; rfl
theorem okT_zero {t : Trm} (h : val t.coef.num = 0) : okT t = false := by unfold okT; rw [decide_eq_true h]; simp
theorem okT_mono {t : Trm} (h : monoB t.mono = false) : okT t = false := by unfold okT; rw [h]; simp
theorem okT_all {t : Trm} (h : t.coef.right = true) (h1 : val t.coef.num ≠ 0) (h2 : monoB t.mono = true) : okT t = true := by unfold okT; rw [h, h2, decide_eq_false h1]; rfl
theorem okT_range {t : Trm} (h : okT t = true) : ∀ x ∈ t.mono, 0 <= x /\ x <= 1048576 := by
 unfold okT at h
 simp only [Bool.and_eq_true] at h
 exact (monoB_mem h.2).2
theorem right_den {r : Rt} (h : r.right = true) : 0 < r.den.length /\ canonB r.den = true := by
 unfold Rt.right at h
 simp only [Bool.and_eq_true, decide_eq_true_eq] at h
 exact ⟨h.2, h.1.1.2⟩
theorem right_pos {r : Rt} (h : r.right = true) : val r.den ≠ 0 := by
 obtain ⟨h1, h2⟩ := right_den h
 intro h0
 have : limbs (val r.den) = r.den := of_decide_eq_true h2
 rw [h0, limbs_zero] at this
 rw [<- this] at h1
 simp at h1
theorem sgnZ_eq (neg : Bool) (n : Nat) : (sgnZ neg n == 0) = decide (n = 0) := by
 unfold sgnZ
 by_cases h : n = 0
 · rw [if_pos h, decide_eq_true h]; rfl
 · rw [if_neg h, decide_eq_false h]; cases neg <;> rfl
theorem polyP_any (l : List Trm) (a : Option Addr) (c : Nat) (w : World) (h : PolyR w a c l) (hq : ∀ t ∈ l, t.coef.num.length <= 2000000 /\ t.coef.den.length <= 2000000) :
  Calls Tryz.prog 48 #[.slice a l.length c] w fun e w' => e = .returned (.bool (polyB l)) /\ Below w.heap.size w w' := by
 have hlen := h.len
 obtain ⟨res, hres⟩ : ∃ x, polyB l = x := ⟨_, rfl⟩
 rw [hres]
 have HRES := Hd hres
 have HP := Hd h
 have HQ := Hd hq
 clear hres h hq
 go_enter Tryz.func48, Tryz.ntmps48
 go_wp2
 go_loopg [3, 4, 7] l.length (fun g _ _ q wr => ∃ k : Nat, k + g = l.length /\ q = .int .i64 k /\ Below w.heap.size w wr /\ ∀ j, j < k -> badAt l j = false)
 case atStart => exact ⟨0, by omega, rfl, Below.refl _ _, fun j hj => by omega⟩
 case round =>
  obtain ⟨k, hkg, rfl, hwr, hall⟩ := hrel
  have HKG := Hd hkg
  have HA := Hd hall
  clear hkg hall
  by_cases hlt : k < l.length
  ·
   obtain ⟨t, ht⟩ := get_of_lt hlt
   have hPr := HP.out.ext (xbw hwr)
   have htq := HQ.out t (List.mem_of_getElem? ht)
   obtain ⟨b, off, hao, p, hC, hP⟩ := hPr.2.2 k t ht
   subst hao
   obtain ⟨c0, c1, c2, c3⟩ := hC
   obtain ⟨hP1, hP2, hP3⟩ := hP
   have HT := Hd ht
   have HPR := Hd hPr
   obtain ⟨⟨neg, num, den⟩, mono⟩ := t
   dsimp only at c0 c1 c2 c3 hP1 hP2 hP3 htq
   have CR := fun W (hW : Below wr.heap.size wr W) => rightQ_any ⟨neg, num, den⟩ p.na p.nc p.da p.dc W (hP2.ext (xbw hW)) (hP3.ext (xbw hW)) htq.1 htq.2
   unfold Rt.val at CR
   dsimp only at CR
   replace CR := Hd CR
   have HP1 := Hd hP1; have HP2 := Hd hP2; have HP3 := Hd hP3; have HTQ := Hd htq
   have hbl : b < wr.heap.size := World.block_lt_of_cell? wr _ c0
   clear ht hPr hP1 hP2 hP3 htq
   have d0 := held ((ext_alloc wr (.cells #[.bool neg, .slice p.na num.length p.nc, .slice p.da den.length p.dc, .slice p.aa mono.length p.ac] 98)) _ _ c0)
   have d1 := held ((ext_alloc wr (.cells #[.bool neg, .slice p.na num.length p.nc, .slice p.da den.length p.dc, .slice p.aa mono.length p.ac] 98)) _ _ c1)
   have d2 := held ((ext_alloc wr (.cells #[.bool neg, .slice p.na num.length p.nc, .slice p.da den.length p.dc, .slice p.aa mono.length p.ac] 98)) _ _ c2)
   have d3 := held ((ext_alloc wr (.cells #[.bool neg, .slice p.na num.length p.nc, .slice p.da den.length p.dc, .slice p.aa mono.length p.ac] 98)) _ _ c3)
   have hx := Blk.new wr 98 #[.bool neg, .slice p.na num.length p.nc, .slice p.da den.length p.dc, .slice p.aa mono.length p.ac]
   have hw2 := hwr.alloc hwr.size (.cells #[.bool neg, .slice p.na num.length p.nc, .slice p.da den.length p.dc, .slice p.aa mono.length p.ac] 98)
   have hwa : Below wr.heap.size wr (wr.alloc (.cells #[.bool neg, .slice p.na num.length p.nc, .slice p.da den.length p.dc, .slice p.aa mono.length p.ac] 98)) := brf.alloc (nlr _) _
   go_wp2
   clear c0 c1 c2 c3
   have hwb : ∀ W, Below (wr.alloc (.cells #[.bool neg, .slice p.na num.length p.nc, .slice p.da den.length p.dc, .slice p.aa mono.length p.ac] 98)).heap.size (wr.alloc (.cells #[.bool neg, .slice p.na num.length p.nc, .slice p.da den.length p.dc, .slice p.aa mono.length p.ac] 98)) W -> Below wr.heap.size wr W := fun W hW => bth hwa hW
   clear hwa
   revert d0 d1 d2 d3 hx hw2 hwb
   generalize wr.alloc (.cells #[.bool neg, .slice p.na num.length p.nc, .slice p.da den.length p.dc, .slice p.aa mono.length p.ac] 98) = w2
   intro d0 d1 d2 d3 hx hw2 hwb
   have s0 : Below w2.heap.size w2 w2.drew := brf.drew
   have k0 := held (hx.cell 0); have k1 := held (hx.cell 1); have k2 := held (hx.cell 2); have k3 := held (hx.cell 3)
   cases hr : Rt.right ⟨neg, num, den⟩ with
   | false =>
    rw [hr] at CR
    obtain rfl : res = false := by rw [<- HRES.out]; exact polyB_bad hlt (badAt_term HT.out (okT_coef hr))
    clear hr
    refine wp_region_mixM (S := Below w2.heap.size w2) [(0, .q), (1, .q), (2, .l), (3, .q), (4, .q), (5, .q), (6, .q), (7, .l), (8, .q), (9, .q), (10, .q), (11, .q), (12, .q), (13, .l), (14, .q), (15, .q), (16, .q), (17, .q), (18, .q), (19, .q), (20, .q), (21, .q), (22, .q), (23, .q), (24, .q), (25, .q), (26, .t), (27, .p), (28, .p), (29, .p)] (by kernel_rfl) (by kernel_rfl) (by kernel_rfl) (fun d _ _ _ _ h => by cases d <;> exact h) (s0) ?_
    iterate 2 (refine wpMix_q rfl rfl (fun K hK => ?_); apply Exists.intro; refine ⟨fun w' hw' => ?_, ?_⟩; (focus (go_simp; try rfl)); go_simp; refine hK _ _ ?_; clear hK K)
    refine wpMix_l rfl rfl (fun K hK => ?_)
    go_simp
    refine (CR.out _ (hwb _ s0)).mono ?_
    rintro r w3 ⟨rfl, hb3⟩
    dsimp only
    refine hK.out _ _ (bth s0 hb3) (fun _ => ?_)
    clear hK K
    have s1 := bth s0 hb3
    iterate 2 (refine wpMix_q rfl rfl (fun K hK => ?_); apply Exists.intro; refine ⟨fun w' hw' => ?_, ?_⟩; (focus (go_simp; try rfl)); go_simp; refine hK _ _ ?_; clear hK K)
    iterate 4 (refine wpMix_skip rfl rfl (fun K hK => ?_); go_simp; refine hK _ _ ?_; clear hK K)
    iterate 2 (refine wpMix_q rfl rfl (fun K hK => ?_); apply Exists.intro; refine ⟨fun w' hw' => ?_, ?_⟩; (focus (go_simp; try rfl)); go_simp; refine hK _ _ ?_; clear hK K)
    iterate 4 (refine wpMix_skip rfl rfl (fun K hK => ?_); go_simp; refine hK _ _ ?_; clear hK K)
    iterate 2 (refine wpMix_q rfl rfl (fun K hK => ?_); apply Exists.intro; refine ⟨fun w' hw' => ?_, ?_⟩; (focus (go_simp; try rfl)); go_simp; refine hK _ _ ?_; clear hK K)
    iterate 12 (refine wpMix_skip rfl rfl (fun K hK => ?_); go_simp; refine hK _ _ ?_; clear hK K)
    iterate 1 (refine wpMix_p rfl rfl (fun K hK => ?_); apply Exists.intro; refine ⟨fun w' => ?_, ?_⟩; (focus (go_simp; try rfl)); go_simp; refine hK _ _ ?_; clear hK K)
    refine wpMix_nil ?_
    go_wp2
    go_ret
    exact ⟨rfl, bth hw2 s1⟩
   | true =>
    rw [hr] at CR
    have hden := right_den hr
    have h0 : val den ≠ 0 := right_pos hr
    have CS := fun W (hW : Below wr.heap.size wr W) => qsign_any neg num den (val num) p.na p.da p.nc p.dc W (HP2.out.ext (xbw hW)) (HP3.out.ext (xbw hW)) rfl h0 HTQ.out.1 HTQ.out.2
    have CM := fun W (hW : Below wr.heap.size wr W) => monoP_any mono p.aa p.ac W (HP1.out.ext (xbw hW))
    have hsg := sgnZ_eq neg (val num)
    have HR := Hd hr
    clear hden h0 hr
    by_cases hn0 : val num = 0
    ·
     rw [decide_eq_true hn0] at hsg
     obtain rfl : res = false := by rw [<- HRES.out]; exact polyB_bad hlt (badAt_term HT.out (okT_zero hn0))
     revert CS hsg
     generalize sgnZ neg (val num) = sg
     intro CS hsg
     replace CS := Hd CS; replace CM := Hd CM
     clear hn0
     refine wp_region_mixM (S := Below w2.heap.size w2) [(0, .q), (1, .q), (2, .l), (3, .q), (4, .q), (5, .q), (6, .q), (7, .l), (8, .q), (9, .q), (10, .q), (11, .q), (12, .q), (13, .l), (14, .q), (15, .q), (16, .q), (17, .q), (18, .q), (19, .q), (20, .q), (21, .q), (22, .q), (23, .q), (24, .q), (25, .q), (26, .t), (27, .p), (28, .p), (29, .p)] (by kernel_rfl) (by kernel_rfl) (by kernel_rfl) (fun d _ _ _ _ h => by cases d <;> exact h) (s0) ?_
     iterate 2 (refine wpMix_q rfl rfl (fun K hK => ?_); apply Exists.intro; refine ⟨fun w' hw' => ?_, ?_⟩; (focus (go_simp; try rfl)); go_simp; refine hK _ _ ?_; clear hK K)
     refine wpMix_l rfl rfl (fun K hK => ?_)
     go_simp
     refine (CR.out _ (hwb _ s0)).mono ?_
     rintro r w3 ⟨rfl, hb3⟩
     dsimp only
     refine hK.out _ _ (bth s0 hb3) (fun _ => ?_)
     clear hK K
     have s1 := bth s0 hb3
     iterate 4 (refine wpMix_q rfl rfl (fun K hK => ?_); apply Exists.intro; refine ⟨fun w' hw' => ?_, ?_⟩; (focus (go_simp; try rfl)); go_simp; refine hK _ _ ?_; clear hK K)
     refine wpMix_l rfl rfl (fun K hK => ?_)
     go_simp
     refine (CS.out _ (hwb _ s1)).mono ?_
     rintro r w4 ⟨rfl, hb4⟩
     dsimp only
     refine hK.out _ _ (bth s1 hb4) (fun _ => ?_)
     clear hK K
     have s2 := bth s1 hb4
     iterate 3 (refine wpMix_q rfl rfl (fun K hK => ?_); apply Exists.intro; refine ⟨fun w' hw' => ?_, ?_⟩; (focus (go_simp; try rfl)); go_simp; refine hK _ _ ?_; clear hK K)
     iterate 4 (refine wpMix_skip rfl rfl (fun K hK => ?_); go_simp; refine hK _ _ ?_; clear hK K)
     iterate 2 (refine wpMix_q rfl rfl (fun K hK => ?_); apply Exists.intro; refine ⟨fun w' hw' => ?_, ?_⟩; (focus (go_simp; try rfl)); go_simp; refine hK _ _ ?_; clear hK K)
     iterate 12 (refine wpMix_skip rfl rfl (fun K hK => ?_); go_simp; refine hK _ _ ?_; clear hK K)
     iterate 1 (refine wpMix_p rfl rfl (fun K hK => ?_); apply Exists.intro; refine ⟨fun w' => ?_, ?_⟩; (focus (go_simp; try rfl)); go_simp; refine hK _ _ ?_; clear hK K)
     refine wpMix_nil ?_
     go_wp2
     go_ret
     exact ⟨rfl, bth hw2 s2⟩
    ·
     rw [decide_eq_false hn0] at hsg
     have HN0 := Hd hn0
     revert CS hsg
     generalize sgnZ neg (val num) = sg
     intro CS hsg
     replace CS := Hd CS
     clear hn0
     cases hm : monoB mono with
     | false =>
      rw [hm] at CM
      replace CM := Hd CM
      obtain rfl : res = false := by rw [<- HRES.out]; exact polyB_bad hlt (badAt_term HT.out (okT_mono hm))
      clear hm
      refine wp_region_mixM (S := Below w2.heap.size w2) [(0, .q), (1, .q), (2, .l), (3, .q), (4, .q), (5, .q), (6, .q), (7, .l), (8, .q), (9, .q), (10, .q), (11, .q), (12, .q), (13, .l), (14, .q), (15, .q), (16, .q), (17, .q), (18, .q), (19, .q), (20, .q), (21, .q), (22, .q), (23, .q), (24, .q), (25, .q), (26, .t), (27, .p), (28, .p), (29, .p)] (by kernel_rfl) (by kernel_rfl) (by kernel_rfl) (fun d _ _ _ _ h => by cases d <;> exact h) (s0) ?_
      iterate 2 (refine wpMix_q rfl rfl (fun K hK => ?_); apply Exists.intro; refine ⟨fun w' hw' => ?_, ?_⟩; (focus (go_simp; try rfl)); go_simp; refine hK _ _ ?_; clear hK K)
      refine wpMix_l rfl rfl (fun K hK => ?_)
      go_simp
      refine (CR.out _ (hwb _ s0)).mono ?_
      rintro r w3 ⟨rfl, hb3⟩
      dsimp only
      refine hK.out _ _ (bth s0 hb3) (fun _ => ?_)
      clear hK K
      have s1 := bth s0 hb3
      iterate 4 (refine wpMix_q rfl rfl (fun K hK => ?_); apply Exists.intro; refine ⟨fun w' hw' => ?_, ?_⟩; (focus (go_simp; try rfl)); go_simp; refine hK _ _ ?_; clear hK K)
      refine wpMix_l rfl rfl (fun K hK => ?_)
      go_simp
      refine (CS.out _ (hwb _ s1)).mono ?_
      rintro r w4 ⟨rfl, hb4⟩
      dsimp only
      refine hK.out _ _ (bth s1 hb4) (fun _ => ?_)
      clear hK K
      have s2 := bth s1 hb4
      iterate 5 (refine wpMix_q rfl rfl (fun K hK => ?_); apply Exists.intro; refine ⟨fun w' hw' => ?_, ?_⟩; (focus (go_simp; try rfl)); go_simp; refine hK _ _ ?_; clear hK K)
      refine wpMix_l rfl rfl (fun K hK => ?_)
      go_simp
      refine (CM.out _ (hwb _ s2)).mono ?_
      rintro r w5 ⟨rfl, rfl⟩
      dsimp only
      refine hK.out _ _ (s2) (fun _ => ?_)
      clear hK K
      iterate 3 (refine wpMix_q rfl rfl (fun K hK => ?_); apply Exists.intro; refine ⟨fun w' hw' => ?_, ?_⟩; (focus (go_simp; try rfl)); go_simp; refine hK _ _ ?_; clear hK K)
      iterate 12 (refine wpMix_skip rfl rfl (fun K hK => ?_); go_simp; refine hK _ _ ?_; clear hK K)
      iterate 1 (refine wpMix_p rfl rfl (fun K hK => ?_); apply Exists.intro; refine ⟨fun w' => ?_, ?_⟩; (focus (go_simp; try rfl)); go_simp; refine hK _ _ ?_; clear hK K)
      refine wpMix_nil ?_
      go_wp2
      go_ret
      exact ⟨rfl, bth hw2 s2⟩
     | true =>
      rw [hm] at CM
      replace CM := Hd CM
      have hok : okT ⟨⟨neg, num, den⟩, mono⟩ = true := okT_all HR.out HN0.out hm
      have HOK := Hd hok
      clear hm hok
      cases k with
      | zero =>
       have hbad := badAt_zero HT.out HOK.out
       have HB := Hd hbad
       clear hbad
       refine wp_region_mixM (S := Below w2.heap.size w2) [(0, .q), (1, .q), (2, .l), (3, .q), (4, .q), (5, .q), (6, .q), (7, .l), (8, .q), (9, .q), (10, .q), (11, .q), (12, .q), (13, .l), (14, .q), (15, .q), (16, .q), (17, .q), (18, .q), (19, .q), (20, .q), (21, .q), (22, .q), (23, .q), (24, .q), (25, .q), (26, .t), (27, .p), (28, .p), (29, .p)] (by kernel_rfl) (by kernel_rfl) (by kernel_rfl) (fun d _ _ _ _ h => by cases d <;> exact h) (s0) ?_
       iterate 2 (refine wpMix_q rfl rfl (fun K hK => ?_); apply Exists.intro; refine ⟨fun w' hw' => ?_, ?_⟩; (focus (go_simp; try rfl)); go_simp; refine hK _ _ ?_; clear hK K)
       refine wpMix_l rfl rfl (fun K hK => ?_)
       go_simp
       refine (CR.out _ (hwb _ s0)).mono ?_
       rintro r w3 ⟨rfl, hb3⟩
       dsimp only
       refine hK.out _ _ (bth s0 hb3) (fun _ => ?_)
       clear hK K
       have s1 := bth s0 hb3
       iterate 4 (refine wpMix_q rfl rfl (fun K hK => ?_); apply Exists.intro; refine ⟨fun w' hw' => ?_, ?_⟩; (focus (go_simp; try rfl)); go_simp; refine hK _ _ ?_; clear hK K)
       refine wpMix_l rfl rfl (fun K hK => ?_)
       go_simp
       refine (CS.out _ (hwb _ s1)).mono ?_
       rintro r w4 ⟨rfl, hb4⟩
       dsimp only
       refine hK.out _ _ (bth s1 hb4) (fun _ => ?_)
       clear hK K
       have s2 := bth s1 hb4
       iterate 5 (refine wpMix_q rfl rfl (fun K hK => ?_); apply Exists.intro; refine ⟨fun w' hw' => ?_, ?_⟩; (focus (go_simp; try rfl)); go_simp; refine hK _ _ ?_; clear hK K)
       refine wpMix_l rfl rfl (fun K hK => ?_)
       go_simp
       refine (CM.out _ (hwb _ s2)).mono ?_
       rintro r w5 ⟨rfl, rfl⟩
       dsimp only
       refine hK.out _ _ (s2) (fun _ => ?_)
       clear hK K
       iterate 6 (refine wpMix_q rfl rfl (fun K hK => ?_); apply Exists.intro; refine ⟨fun w' hw' => ?_, ?_⟩; (focus (go_simp; try rfl)); go_simp; refine hK _ _ ?_; clear hK K)
       iterate 8 (refine wpMix_skip rfl rfl (fun K hK => ?_); go_simp; refine hK _ _ ?_; clear hK K)
       iterate 2 (refine wpMix_p rfl rfl (fun K hK => ?_); apply Exists.intro; refine ⟨fun w' => ?_, ?_⟩; (focus (go_simp; try rfl)); go_simp; refine hK _ _ ?_; clear hK K)
       refine wpMix_nil ?_
       go_wp2
       go_roundg (gk - 1)
       case rel => exact ⟨1, by have := HKG.out; omega, by go_num, bth hw2 s2, all_succ HA.out HB.out⟩
       case measure => have := HKG.out; omega
      | succ j =>
       obtain ⟨s, hs⟩ := get_of_lt (xs := l) (k := j) (by omega)
       obtain ⟨b', off', hao, p', hC', hP'⟩ := HPR.out.2.2 j s hs
       injection hao with hao
       injection hao with hao1 hao2
       subst hao1 hao2
       obtain ⟨c0, c1, c2, c3⟩ := hC'
       have hbad := badAt_succ HT.out hs HOK.out
       have HB := Hd hbad
       have e0 := fun W (hW : Below w2.heap.size w2 W) => xbw (hwb W hW) _ _ c0
       have e1 := fun W (hW : Below w2.heap.size w2 W) => xbw (hwb W hW) _ _ c1
       have e2 := fun W (hW : Below w2.heap.size w2 W) => xbw (hwb W hW) _ _ c2
       have e3 := fun W (hW : Below w2.heap.size w2 W) => xbw (hwb W hW) _ _ c3
       have CL := fun W (hW : Below wr.heap.size wr W) => lex_any s ⟨⟨neg, num, den⟩, mono⟩ p' p W (hP'.1.ext (xbw hW)) (HP1.out.ext (xbw hW))
       unfold Trm.val at CL
       dsimp only at CL hbad
       revert CL hbad
       generalize lexI s.mono mono = lx
       intro hbad CL
       have hwk : IntKind.i64.wrap (j : Int) = (j : Int) := by rw [IntKind.wrap_i64]; omega
       replace CL := Hd CL
       have HBD := Hd hbad
       have hjl : j < l.length := by omega
       clear hbad HB hP' hs c0 c1 c2 c3
       by_cases hlx : lx <= 0
       ·
        have hle : decide (lx <= 0) = true := by simpa using hlx
        obtain rfl : res = false := by rw [<- HRES.out]; exact polyB_bad hlt (HBD.out.trans hle)
        clear hlx HBD
        refine wp_region_mixM (S := Below w2.heap.size w2) [(0, .q), (1, .q), (2, .l), (3, .q), (4, .q), (5, .q), (6, .q), (7, .l), (8, .q), (9, .q), (10, .q), (11, .q), (12, .q), (13, .l), (14, .q), (15, .q), (16, .q), (17, .q), (18, .q), (19, .q), (20, .q), (21, .q), (22, .q), (23, .q), (24, .q), (25, .q), (26, .t), (27, .p), (28, .p), (29, .p)] (by kernel_rfl) (by kernel_rfl) (by kernel_rfl) (fun d _ _ _ _ h => by cases d <;> exact h) (s0) ?_
        iterate 2 (refine wpMix_q rfl rfl (fun K hK => ?_); apply Exists.intro; refine ⟨fun w' hw' => ?_, ?_⟩; (focus (go_simp; try rfl)); go_simp; refine hK _ _ ?_; clear hK K)
        refine wpMix_l rfl rfl (fun K hK => ?_)
        go_simp
        refine (CR.out _ (hwb _ s0)).mono ?_
        rintro r w3 ⟨rfl, hb3⟩
        dsimp only
        refine hK.out _ _ (bth s0 hb3) (fun _ => ?_)
        clear hK K
        have s1 := bth s0 hb3
        iterate 4 (refine wpMix_q rfl rfl (fun K hK => ?_); apply Exists.intro; refine ⟨fun w' hw' => ?_, ?_⟩; (focus (go_simp; try rfl)); go_simp; refine hK _ _ ?_; clear hK K)
        refine wpMix_l rfl rfl (fun K hK => ?_)
        go_simp
        refine (CS.out _ (hwb _ s1)).mono ?_
        rintro r w4 ⟨rfl, hb4⟩
        dsimp only
        refine hK.out _ _ (bth s1 hb4) (fun _ => ?_)
        clear hK K
        have s2 := bth s1 hb4
        iterate 5 (refine wpMix_q rfl rfl (fun K hK => ?_); apply Exists.intro; refine ⟨fun w' hw' => ?_, ?_⟩; (focus (go_simp; try rfl)); go_simp; refine hK _ _ ?_; clear hK K)
        refine wpMix_l rfl rfl (fun K hK => ?_)
        go_simp
        refine (CM.out _ (hwb _ s2)).mono ?_
        rintro r w5 ⟨rfl, rfl⟩
        dsimp only
        refine hK.out _ _ (s2) (fun _ => ?_)
        clear hK K
        iterate 12 (refine wpMix_q rfl rfl (fun K hK => ?_); apply Exists.intro; refine ⟨fun w' hw' => ?_, ?_⟩; (focus (go_simp; try rfl)); go_simp; refine hK _ _ ?_; clear hK K)
        refine wpMix_t rfl rfl (fun K hK => ?_)
        go_simp
        refine (CL.out _ (hwb _ s2)).mono ?_
        rintro r w6 ⟨rfl, hb6⟩
        dsimp only
        refine hK.out _ _ ?_
        clear hK K
        have s3 := bth s2 hb6
        iterate 3 (refine wpMix_p rfl rfl (fun K hK => ?_); apply Exists.intro; refine ⟨fun w' => ?_, ?_⟩; (focus (go_simp; try rfl)); go_simp; refine hK _ _ ?_; clear hK K)
        refine wpMix_nil ?_
        go_wp2
        go_ret
        exact ⟨rfl, bth hw2 s3⟩
       ·
        have hle : decide (lx <= 0) = false := by simpa using hlx
        have HB := Hd (HBD.out.trans hle)
        clear hlx HBD
        refine wp_region_mixM (S := Below w2.heap.size w2) [(0, .q), (1, .q), (2, .l), (3, .q), (4, .q), (5, .q), (6, .q), (7, .l), (8, .q), (9, .q), (10, .q), (11, .q), (12, .q), (13, .l), (14, .q), (15, .q), (16, .q), (17, .q), (18, .q), (19, .q), (20, .q), (21, .q), (22, .q), (23, .q), (24, .q), (25, .q), (26, .t), (27, .p), (28, .p), (29, .p)] (by kernel_rfl) (by kernel_rfl) (by kernel_rfl) (fun d _ _ _ _ h => by cases d <;> exact h) (s0) ?_
        iterate 2 (refine wpMix_q rfl rfl (fun K hK => ?_); apply Exists.intro; refine ⟨fun w' hw' => ?_, ?_⟩; (focus (go_simp; try rfl)); go_simp; refine hK _ _ ?_; clear hK K)
        refine wpMix_l rfl rfl (fun K hK => ?_)
        go_simp
        refine (CR.out _ (hwb _ s0)).mono ?_
        rintro r w3 ⟨rfl, hb3⟩
        dsimp only
        refine hK.out _ _ (bth s0 hb3) (fun _ => ?_)
        clear hK K
        have s1 := bth s0 hb3
        iterate 4 (refine wpMix_q rfl rfl (fun K hK => ?_); apply Exists.intro; refine ⟨fun w' hw' => ?_, ?_⟩; (focus (go_simp; try rfl)); go_simp; refine hK _ _ ?_; clear hK K)
        refine wpMix_l rfl rfl (fun K hK => ?_)
        go_simp
        refine (CS.out _ (hwb _ s1)).mono ?_
        rintro r w4 ⟨rfl, hb4⟩
        dsimp only
        refine hK.out _ _ (bth s1 hb4) (fun _ => ?_)
        clear hK K
        have s2 := bth s1 hb4
        iterate 5 (refine wpMix_q rfl rfl (fun K hK => ?_); apply Exists.intro; refine ⟨fun w' hw' => ?_, ?_⟩; (focus (go_simp; try rfl)); go_simp; refine hK _ _ ?_; clear hK K)
        refine wpMix_l rfl rfl (fun K hK => ?_)
        go_simp
        refine (CM.out _ (hwb _ s2)).mono ?_
        rintro r w5 ⟨rfl, rfl⟩
        dsimp only
        refine hK.out _ _ (s2) (fun _ => ?_)
        clear hK K
        iterate 12 (refine wpMix_q rfl rfl (fun K hK => ?_); apply Exists.intro; refine ⟨fun w' hw' => ?_, ?_⟩; (focus (go_simp; try rfl)); go_simp; refine hK _ _ ?_; clear hK K)
        refine wpMix_t rfl rfl (fun K hK => ?_)
        go_simp
        refine (CL.out _ (hwb _ s2)).mono ?_
        rintro r w6 ⟨rfl, hb6⟩
        dsimp only
        refine hK.out _ _ ?_
        clear hK K
        have s3 := bth s2 hb6
        iterate 3 (refine wpMix_p rfl rfl (fun K hK => ?_); apply Exists.intro; refine ⟨fun w' => ?_, ?_⟩; (focus (go_simp; try rfl)); go_simp; refine hK _ _ ?_; clear hK K)
        refine wpMix_nil ?_
        go_wp2
        go_roundg (gk - 1)
        case rel => exact ⟨j + 1 + 1, by have := HKG.out; omega, by go_num, bth hw2 s3, all_succ HA.out HB.out⟩
        case measure => have := HKG.out; omega
  ·
   obtain rfl : res = true := by rw [<- HRES.out]; exact polyB_good fun i hi => HA.out i (by omega)
   go_wp2
   go_ret
   exact ⟨rfl, hwr⟩
def strC (s : ByteArray) : List Value := [.string s]
def intC (x : Int) : List Value := [.int .i64 x]
theorem strC_len (s : ByteArray) : (strC s).length = 1 := rfl
theorem intC_len (s : Int) : (intC s).length = 1 := rfl
theorem strC_one (s : ByteArray) : ∀ u ∈ strC s, u.oneCell' = true := by simp [strC, Value.oneCell']
theorem intC_one (s : Int) : ∀ u ∈ intC s, u.oneCell' = true := by simp [intC, Value.oneCell']
theorem strC_cell {w : World} {b : Nat} {s : ByteArray} (h : w.cell? ⟨b, 0, none⟩ = some (.string s)) : ∀ j u, (strC s)[j]? = some u -> w.cell? ⟨b, j, none⟩ = some u := by
 intro j u hu
 match j, hu with
 | 0, hu => simp [strC] at hu; subst hu; exact h
theorem intC_cell {w : World} {b : Nat} {s : Int} (h : w.cell? ⟨b, 0, none⟩ = some (.int .i64 s)) : ∀ j u, (intC s)[j]? = some u -> w.cell? ⟨b, j, none⟩ = some u := by
 intro j u hu
 match j, hu with
 | 0, hu => simp [intC] at hu; subst hu; exact h
abbrev OwnS (B : Nat) (w : World) (a : Option Addr) (c : Nat) (l : List ByteArray) : Prop := Own strC 1 9 B w a c l
abbrev OwnI (B : Nat) (w : World) (a : Option Addr) (c : Nat) (l : List Int) : Prop := Own intC 1 3 B w a c l
theorem infoS : (Tryz.prog.info? 9).map (fun i => (i.zero, i.size, i.bytes)) = some (some (.string ⟨#[]⟩), 1, 16) := by kernel_rfl
theorem infoI : (Tryz.prog.info? 3).map (fun i => (i.zero, i.size, i.bytes)) = some (some (.int .i64 0), 1, 8) := by kernel_rfl
section
variable {B : Nat} {w : World} {a : Option Addr} {c : Nat}
theorem OwnS.reads1 {l : List ByteArray} (h : OwnS B w a c l) : StrsR w a c l :=
 Own.reads strC_len h fun g o x hx hc => show w.cell? _ = _ by simpa using hc 0 _ rfl
theorem OwnI.reads1 {l : List Int} (h : OwnI B w a c l) (hs : ∀ s ∈ l, InInt s) : IntsR w a c l :=
 Own.reads intC_len h fun g o x hx hc => ⟨by simpa using hc 0 _ rfl, wf_of (hs x hx)⟩
end
theorem append_str {B : Nat} {w : World} {l : List ByteArray} {ops : Array Oper} {rest : List Oper} {o : Oper} {act : Act} {Q : Exit -> Act -> World -> Prop} (hgd : o.guard = none) (s y : Operand)
  (ho : o.op = .call { callee := .builtin .append, args := #[s, y], argTypes := #[26, 26] })
  (a : Option Addr) (c : Nat) (hs : act.eval s = .slice a l.length c) (hown : OwnS B w a c l)
  (x : ByteArray) (b c1 : Nat) (hy : act.eval y = .slice (some ⟨b, 0, none⟩) 1 c1) (hcell : w.cell? ⟨b, 0, none⟩ = some (.string x))
  (l2 : List ByteArray) (hl2 : l2 = l ++ [x]) (hlen : l2.length <= 16777216) (hB : B <= w.heap.size)
  (h : ∀ a' c' w', OwnS B w' a' c' l2 -> w.grownBy w' (Value.ownBlock (.slice a l.length c)) -> ((∃ g, a' = some ⟨g, 0, none⟩ /\ (a = some ⟨g, 0, none⟩ \/ g = w.heap.size))) ->
   wpList Tryz.prog ops Q rest (act.put o.dst (.slice a' l2.length c')) w') : wpList Tryz.prog ops Q (o :: rest) act w :=
 wpList_append_1 hgd s y 26 ho Tryz.underlying26 infoS rfl (by omega) (by omega) strC_len a c hs hown x (strC_one x) b c1 hy (strC_cell hcell) l2 hl2 hlen hB h
theorem append_int {B : Nat} {w : World} {l : List Int} {ops : Array Oper} {rest : List Oper} {o : Oper} {act : Act} {Q : Exit -> Act -> World -> Prop} (hgd : o.guard = none) (s y : Operand)
  (ho : o.op = .call { callee := .builtin .append, args := #[s, y], argTypes := #[23, 23] })
  (a : Option Addr) (c : Nat) (hs : act.eval s = .slice a l.length c) (hown : OwnI B w a c l)
  (x : Int) (b c1 : Nat) (hy : act.eval y = .slice (some ⟨b, 0, none⟩) 1 c1) (hcell : w.cell? ⟨b, 0, none⟩ = some (.int .i64 x))
  (l2 : List Int) (hl2 : l2 = l ++ [x]) (hlen : l2.length <= 16777216) (hB : B <= w.heap.size)
  (h : ∀ a' c' w', OwnI B w' a' c' l2 -> w.grownBy w' (Value.ownBlock (.slice a l.length c)) -> ((∃ g, a' = some ⟨g, 0, none⟩ /\ (a = some ⟨g, 0, none⟩ \/ g = w.heap.size))) ->
   wpList Tryz.prog ops Q rest (act.put o.dst (.slice a' l2.length c')) w') : wpList Tryz.prog ops Q (o :: rest) act w :=
 wpList_append_1 hgd s y 23 ho Tryz.underlying23 infoI rfl (by omega) (by omega) intC_len a c hs hown x (intC_one x) b c1 hy (intC_cell hcell) l2 hl2 hlen hB h
section
variable {α : Type} {f : α -> List Value} {sz : Nat} {t : TypeId} {B : Nat} {w : World} {l : List α} {P : Program}
end
structure TQ where
 x : QA
 n : Nat
 a : Option Addr
 c : Nat
section
variable {X Y : Nat -> Prop} {w w' : World} {a : Option Addr} {c : Nat} {p q : List Tm} {l l' : List TQ}
end
section
variable {X : Nat -> Prop} {w w' w'' : World} {B : Nat} {a a' : Option Addr} {c n : Nat} {p : List Tm} {l : List TQ} {R : World -> Prop}
end
def sgnQ (q : Rat) : Int := if q = 0 then 0 else if q < 0 then -1 else 1
theorem sgnZ_q (q : Rat) : sgnZ (decide (q.num < 0)) q.num.natAbs = sgnQ q := by
 unfold sgnZ sgnQ
 by_cases h : q = 0
 · subst h; rfl
 ·
  have h0 : q.num ≠ 0 := fun e => h (Rat.num_eq_zero.1 e)
  rw [if_neg (by omega), if_neg h]
  have h2 : q < 0 ↔ q.num < 0 := by rw [Rat.lt_iff]; simp
  by_cases h1 : q.num < 0
  · rw [if_pos (by simpa using h1), if_pos (h2.2 h1)]
  · rw [if_neg (by simpa using h1), if_neg (fun e => h1 (h2.1 e))]
theorem sign_q (x : QA) (q : Rat) (k : Nat) (w : World) (H : QK k w x q) (hk : k <= 100000) : Calls Tryz.prog 52 #[.agg #[.bool x.neg, .slice x.a x.n x.c, .slice x.b x.m x.d]] w fun e w' => e = .returned (.int .i64 (sgnQ q)) /\ Below w.heap.size w w' := by
 obtain ⟨s1, n1, a1, c1, m1, b1, d1⟩ := x
 obtain ⟨⟨e1, e2, e3, r1, r2⟩, z1⟩ := H
 dsimp only at e1 e2 e3 r1 r2 ⊢
 subst e1 e2 e3
 have l1 := qsz_num q
 have l2 := qsz_den q
 have := qsign_any (decide (q.num < 0)) (limbs q.num.natAbs) (limbs q.den) q.num.natAbs a1 b1 c1 d1 w r1 r2 (val_limbs _) (by rw [val_limbs]; exact q.den_nz) (by omega) (by omega)
 rwa [sgnZ_q] at this
theorem signR_q (x : QA) (q : Rat) (k : Nat) (w : World) (H : QK k w x q) (hk : k <= 100000) : Calls Tryz.prog 58 #[.agg #[.bool x.neg, .slice x.a x.n x.c, .slice x.b x.m x.d]] w fun e w' => e = .returned (.int .i64 (sgnQ q)) /\ Below w.heap.size w w' := by
 obtain ⟨s1, n1, a1, c1, m1, b1, d1⟩ := x
 obtain ⟨⟨e1, e2, e3, r1, r2⟩, z1⟩ := H
 dsimp only at e1 e2 e3 r1 r2 ⊢
 subst e1 e2 e3
 have l1 := qsz_num q
 have l2 := qsz_den q
 have := qsignR_any (decide (q.num < 0)) (limbs q.num.natAbs) (limbs q.den) q.num.natAbs a1 b1 c1 d1 w r1 r2 (val_limbs _) (by rw [val_limbs]; exact q.den_nz) (by omega) (by omega)
 rwa [sgnZ_q] at this
end Go.Proofs.YtdnblkklgdnapaaGreatDoor
namespace Go.Proofs.YtdnblkklgdnapaaGreatDoor
open Go.RowKit Go.Lib
def ofL (l : List UInt8) : ByteArray := ⟨l.toArray⟩
theorem ofL_data (s : ByteArray) : ofL s.data.toList = s := by cases s; rfl
theorem ofL_app (a b : List UInt8) : ofL a ++ ofL b = ofL (a ++ b) := by
 rw [<- ofL_data (ofL a ++ ofL b)]
 simp [ofL]
theorem ofL_size (a : List UInt8) : (ofL a).size = a.length := by simp [ofL, ByteArray.size]
end Go.Proofs.YtdnblkklgdnapaaGreatDoor
namespace Go.Proofs.YtdnblkklgdnapaaGreatDoor
def digs (n : Nat) : List UInt8 := if h : n = 0 then [] else digs (n / 10) ++ [(48 + n % 10).toUInt8]
termination_by n
decreasing_by omega
theorem digs_zero : digs 0 = [] := by rw [digs]; simp
theorem digs_pos {n : Nat} (h : n ≠ 0) : digs n = digs (n / 10) ++ [(48 + n % 10).toUInt8] := by rw [digs]; simp [h]
def textN (n : Nat) : List UInt8 := if n = 0 then [48] else digs n
def textZ (neg : Bool) (n : Nat) : List UInt8 := if neg = true then 45 :: textN n else textN n
theorem digs_small {n : Nat} (h0 : n ≠ 0) (h : n < 10) : digs n = [(48 + n).toUInt8] := by
 rw [digs_pos h0, show n / 10 = 0 by omega, digs_zero, show n % 10 = n by omega]; rfl
theorem textN_small {n : Nat} (h : n < 10) : textN n = [(48 + n).toUInt8] := by
 unfold textN
 split
 · next h0 => subst h0; rfl
 · next h0 => exact digs_small h0 h
theorem digs_len (k n : Nat) (h : n < 10 ^ k) : (digs n).length <= k := by
 induction k generalizing n with
 | zero => simp at h; subst h; rw [digs_zero]; simp
 | succ k ih =>
  by_cases h0 : n = 0
  · subst h0; rw [digs_zero]; simp
  ·
   rw [digs_pos h0, List.length_append]
   have := ih (n / 10) (by rw [Nat.pow_succ] at h; omega)
   simp; omega
end Go.Proofs.YtdnblkklgdnapaaGreatDoor
namespace Go.Proofs.YtdnblkklgdnapaaGreatDoor
open Go.RowKit
theorem conv_byte (w : World) (c : UInt8) : (convert 86 9 (.slice (some ⟨w.heap.size, 0, none⟩) 1 1)).run Tryz.prog (w.alloc (.cells #[.int .u8 (c.toNat : Int)] 5)) = .ok (.string (ofL [c])) (w.alloc (.cells #[.int .u8 (c.toNat : Int)] 5)) := by
 refine run_convert_bytes_back (P := Tryz.prog) (w.alloc (.cells #[.int .u8 (c.toNat : Int)] 5)) 86 9 5 ⟨w.heap.size, 0, none⟩ 1 [c] Tryz.underlying86 Tryz.underlying5 Tryz.underlying9 ?_
 intro j hj
 obtain rfl : j = 0 := by simpa using hj
 rw [Addr.add_lit]
 simp
theorem conv_digit (w : World) (r : Nat) (hr : r < 10) : (convert 86 9 (.slice (some ⟨w.heap.size, 0, none⟩) 1 1)).run Tryz.prog (w.alloc (.cells #[.int .u8 (48 + (r : Int))] 5)) = .ok (.string (ofL [(48 + r).toUInt8])) (w.alloc (.cells #[.int .u8 (48 + (r : Int))] 5)) := by
 have := conv_byte w (48 + r).toUInt8
 have e : (48 + r).toUInt8.toNat = 48 + r := by simp; omega
 rw [e] at this
 have e2 : ((48 + r : Nat) : Int) = 48 + (r : Int) := by omega
 rw [e2] at this
 exact this
theorem digs_len_limbs (n : Nat) (h : (limbs n).length <= 2000000) : (digs n).length <= 10000000 := by
 have h1 := lt_pow_limbs n
 have h2 : 65536 ^ (limbs n).length <= (10 ^ 5) ^ (limbs n).length := Nat.pow_le_pow_left (by omega) _
 rw [<- Nat.pow_mul] at h2
 have h3 := digs_len (5 * (limbs n).length) n (ltl h1 h2)
 omega
theorem textN_len (n : Nat) (h : (limbs n).length <= 2000000) : (textN n).length <= 10000000 := by
 unfold textN
 split
 · simp
 · exact digs_len_limbs n h
theorem text01_any (l : List Int) (n : Nat) (a : Option Addr) (c : Nat) (w : World) (h : NatR w a c l) (hn : val l = n) (hl : l.length <= 2000000) :
  Calls Tryz.prog 98 #[.slice a l.length c] w fun e w' => e = .returned (.string (ofL (textN n))) /\ Below w.heap.size w w' := by
 have C1 := norm01_any l a c w h (by omega)
 rw [hn] at C1
 replace C1 := Hd C1
 have hL1 : (limbs n).length <= 2000000 := by have := limbs_len_val h.u16; rw [hn] at this; omega
 have HT := Hd (show textN n = textN n from rfl)
 obtain ⟨T, hT⟩ : ∃ T, textN n = T := ⟨_, rfl⟩
 rw [hT]
 clear h hn HT
 by_cases h0 : n = 0
 ·
  subst h0
  have hT' : T = [48] := by rw [<- hT]; rfl
  clear hT
  subst hT'
  rw [limbs_zero] at C1
  go_enter Tryz.func98, Tryz.ntmps98
  go_wp2_with fail
  refine C1.out.mono ?_
  rintro e w1 ⟨a1, c1, rfl, hV1, hb1⟩
  clear hV1 C1
  go_wp2
  go_ret
  exact ⟨rfl, hb1⟩
 ·
  have hlp : (((limbs n).length : Int) == 0) = false := by have h5 := limbs_len_pos.2 (show 0 < n by omega); rw [beq_eq_false_iff_ne]; omega
  have hT' : digs n = T := by rw [<- hT]; unfold textN; rw [if_neg h0]
  have hTl : T.length <= 10000000 := by
   rw [<- hT']
   exact digs_len_limbs n hL1
  have HT := Hd hT'
  clear hT hT'
  go_enter Tryz.func98, Tryz.ntmps98
  go_wp2_with fail
  refine C1.out.mono ?_
  rintro e w1 ⟨a1, c1, rfl, hV1, hb1⟩
  have HV1 := Hd hV1
  clear hV1 C1
  go_wp2
  have e0 : (⟨#[]⟩ : ByteArray) = ofL [] := rfl
  go_loopg [0, 3, 4, 5, 6, 15] n (fun g sx ss _ _ _ _ wr => ∃ (ax : Option Addr) (cx : Nat) (r : List UInt8), sx = .slice ax (limbs g).length cx /\ ss = .string (ofL r) /\ (∀ V, New w.heap.size wr V -> NatR V ax cx (limbs g)) /\
   (limbs g).length <= 2000000 /\ Below w.heap.size w wr /\ digs g ++ r = T)
  case atStart => exact ⟨a1, c1, [], rfl, rfl, HV1.out, hL1, hb1, by rw [HT.out, List.append_nil]⟩
  case round =>
   obtain ⟨ax, cx, r, rfl, rfl, hx, hlx, hb', hg⟩ := hrel
   have HX := Hd hx
   have HG := Hd hg
   clear hx hg hb1 HV1 HT hlp h0 e0
   by_cases h0 : gk = 0
   ·
    subst h0
    have hgz : decide (0 < (limbs 0).length) = false := by rw [limbs_zero]; rfl
    have hr : r = T := by have := HG.out; rwa [digs_zero, List.nil_append] at this
    subst hr
    clear HG
    go_wp2
    go_ret
    exact ⟨rfl, hb'⟩
   ·
    have hgz : decide (0 < (limbs gk).length) = true := by have := limbs_len_pos (n := gk); simp; omega
    have C10 := fun W => of01_any 10 W (by omega)
    have CD := fun a' c' W hW h' => divMod01_any (limbs gk) (limbs 10) gk 10 ax a' cx c' W ((HX.out W hW)) h' (val_limbs _) (val_limbs _) hlx (by have := limbs_len_le (n := 10) (k := 1) (by omega); omega) (by omega)
    unfold RetDM at CD
    have hr10 : gk % 10 < 10 := Nat.mod_lt _ (by omega)
    have hlt : gk / 10 < gk := by omega
    have hdg := HG.out
    rw [digs_pos h0] at hdg
    have hsm : val (limbs (gk % 10)) < 18446744073709551616 := by rw [val_limbs]; omega
    have hlr : (limbs (gk / 10)).length <= 2000000 := Nat.le_trans (limbs_len_mono (Nat.div_le_self _ _)) hlx
    have CS := fun a' c' W (h' : NatR W a' c' (limbs (gk % 10))) => short01_any (limbs (gk % 10)) a' c' W h' hsm
    rw [val_limbs] at CS
    have KD := fun W => conv_digit W (gk % 10) hr10
    obtain ⟨q, hq⟩ : ∃ q, gk / 10 = q := ⟨_, rfl⟩
    obtain ⟨m, hm⟩ : ∃ m, gk % 10 = m := ⟨_, rfl⟩
    rw [hq] at hlt hdg hlr
    rw [hm] at hr10 hdg
    simp only [hq, hm] at CD CS KD
    obtain ⟨dg, hdd⟩ : ∃ x, (48 + m).toUInt8 = x := ⟨_, rfl⟩
    rw [hdd] at hdg
    simp only [hdd] at KD
    have hsz : (ofL [dg]).size + (ofL r).size <= 10000001 := by
     rw [ofL_size, ofL_size]
     have := congrArg List.length HG.out
     rw [List.length_append] at this
     simp; omega
    have HDG := Hd hdg
    replace C10 := Hd C10
    replace CD := Hd CD
    replace CS := Hd CS
    clear hsm hq hm HG hdg h0 hdd
    go_wp2_with fail
    refine (C10.out _).mono ?_
    rintro e w2 ⟨a2, c2, rfl, hV2, hb2⟩
    have CD2 := Hd (CD.out a2 c2 w2 ((New.refl _ _).below hb2) (hV2 w2 (New.refl _ _)))
    clear hV2 CD C10
    go_wp2_with fail
    refine CD2.out.mono ?_
    rintro e w3 ⟨a3, c3, a4, c4, rfl, hV3, hV4, hb3⟩
    have CS2 := Hd (CS.out a4 c4 w3 (hV4 w3 (New.refl _ _)))
    have hw3 := bth (bth hb' hb2) hb3
    have HV3 := Hd hV3
    clear hV3 hV4 CD2 CS
    go_wp2_with fail
    refine CS2.out.mono ?_
    rintro e w4 ⟨rfl, rfl⟩
    have hm1 : (m : Int) < 10 := by omega
    go_wp2
    go_roundg q
    case rel => exact ⟨a3, c3, [dg] ++ r, rfl, congrArg Value.string (ofL_app _ _), fun V hV => HV3.out V ((hV.unalloc).base (bth hb' hb2).size), hlr, hw3.alloc hw3.size _, by rw [<- HDG.out, List.append_assoc]⟩
    case measure => exact hlt
theorem text02_any (neg : Bool) (l : List Int) (n : Nat) (a : Option Addr) (c : Nat) (w : World) (h : NatR w a c l) (hn : val l = n) (hl : l.length <= 2000000) :
  Calls Tryz.prog 97 #[.agg #[.bool neg, .slice a l.length c]] w fun e w' => e = .returned (.string (ofL (textZ (neg && decide (0 < n)) n))) /\ Below w.heap.size w w' := by
 have CN := fun W (hW : Below w.heap.size w W) => znormR_any neg l n a c W (h.ext (xbw hW)) hn (by omega)
 have hz : Blk (w.alloc (.cells #[.bool neg, .slice a l.length c] 62)) w.heap.size 62 #[.bool neg, .slice a l.length c] := Blk.new w _ _
 have hb0 : Below w.heap.size w (w.alloc (.cells #[.bool neg, .slice a l.length c] 62)) := brf.alloc (nlr _) _
 have hln : (limbs n).length <= 2000000 := by have := limbs_len_val h.u16; rw [hn] at this; omega
 obtain ⟨s, hs⟩ : ∃ s, (neg && decide (0 < n)) = s := ⟨_, rfl⟩
 unfold RetZ at CN
 simp only [hs] at CN ⊢
 replace CN := Hd CN
 clear h hn hs
 go_enter Tryz.func97, Tryz.ntmps97
 go_wp2_with fail
 revert hz hb0
 generalize w.alloc (.cells #[.bool neg, .slice a l.length c] 62) = w0
 intro hz hb0
 refine (CN.out _ hb0).mono ?_
 rintro e w1 ⟨a1, c1, rfl, hV1, hb1⟩
 have hw1 := bth hb0 hb1
 have hz1 := hz.below' hb1
 have hlt := hz.lt
 have HV1 := Hd hV1
 have hs0 := hb0.size
 have z0 := hz1.cell 0; have z1 := hz1.cell 1; have f0 := hz1.frozen 0; have f1 := hz1.frozen 1
 clear hV1
 have CT := fun W (hW : NatR W a1 c1 (limbs n)) => text01_any (limbs n) n a1 c1 W hW (val_limbs _) hln
 replace CT := Hd CT
 have RD := fun x y => HV1.out ((w1.setCell ⟨w.heap.size, 0, none⟩ x).setCell ⟨w.heap.size, 1, none⟩ y) (back2 (New.refl _ _) hs0 hlt)
 replace RD := Hd RD
 cases s
 ·
  go_wp2_with fail
  refine (CT.out _ (RD.out _ _)).mono ?_
  rintro e w2 ⟨rfl, hb2⟩
  go_wp2
  go_ret
  exact ⟨rfl, (below2 hw1 (nlr _)).trans (hb2.mono (by simp; exact hw1.size))⟩
 ·
  go_wp2_with fail
  refine (CT.out _ (RD.out _ _)).mono ?_
  rintro e w2 ⟨rfl, hb2⟩
  have hsz : (textN n).length <= 10000000 := textN_len n hln
  rw [<- ofL_size] at hsz
  have e45 : (⟨#[45]⟩ : ByteArray) ++ ofL (textN n) = ofL (45 :: textN n) := ofL_app [45] _
  replace e45 := Hd e45
  go_wp2
  go_ret
  exact ⟨ret_str e45.out, (below2 hw1 (nlr _)).trans (hb2.mono (by simp; exact hw1.size))⟩
end Go.Proofs.YtdnblkklgdnapaaGreatDoor
