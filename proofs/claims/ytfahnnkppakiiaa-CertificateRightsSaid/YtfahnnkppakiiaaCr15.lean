/- Walks: whether a polynomial is right, by the program and by the reference. -/
import Derived.Test.YtfahnnkppakiiaaCr14
import Derived.Test.YtfahnnkppakiiaaCr8
import Derived.Test.YtfahnnkppakiiaaCr5

/- Walks: the sign of a fraction whose denominator is not 0, by the program and by the reference. -/
namespace Go.Proofs.Ytfahnnkppakiiaa
open Go.RowKit

theorem lowest_sgn (neg : Bool) (n d : Nat) (h0 : d ≠ 0) : sgnZ (lowest neg n d).1 (lowest neg n d).2.1 = sgnZ neg n := by
  unfold lowest
  rw [if_neg h0]
  dsimp only
  unfold sgnZ
  by_cases hn : n = 0
  · subst hn; simp
  · have hg : 0 < Nat.gcd n d := Nat.gcd_pos_of_pos_left _ (by omega)
    have hq : 0 < n / Nat.gcd n d := Nat.div_pos (Nat.le_of_dvd (by omega) (Nat.gcd_dvd_left n d)) hg
    rw [if_neg (by omega), if_neg hn, decide_eq_true hq, Bool.and_true]
theorem rat_num (s : Bool) (a1 : Option Addr) (k1 c1 : Nat) (a2 : Option Addr) (k2 c2 : Nat) (w : World) : (Instr.field 33 (.agg #[.bool s, .slice a1 k1 c1, .slice a2 k2 c2]) 0).run Try.prog w = .ok (.agg #[.bool s, .slice a1 k1 c1]) w := by kernel_rfl
set_option maxRecDepth 100000 in
set_option maxHeartbeats 1000000 in
theorem qsign_any (neg : Bool) (l m : List Int) (n : Nat) (a a' : Option Addr) (c c' : Nat) (w : World) (h : NatR w a c l) (h' : NatR w a' c' m) (hn : val l = n) (h0 : val m ≠ 0) (hl : l.length ≤ 2000000) (hm : m.length ≤ 2000000) :
    Calls Try.prog 40 #[.agg #[.bool neg, .slice a l.length c, .slice a' m.length c']] w fun e w' => e = .returned (.int .i64 (sgnZ neg n)) ∧ Below w.heap.size w w' := by
  have CP := fun W (hW : Below w.heap.size w W) => parts_any neg l m a a' c c' W (h'.ext (Ext.below hW)) h0 (by omega)
  have CS := fun W (hW : Below w.heap.size w W) => zsign_any neg l n a c W (h.ext (Ext.below hW)) hn (by omega)
  obtain ⟨R, hR⟩ : ∃ q, sgnZ neg n = q := ⟨_, rfl⟩
  rw [hR] at CS ⊢
  replace CP := Lib.hid CP; replace CS := Lib.hid CS
  have hz : Blk (w.alloc (.cells #[.bool neg, .slice a l.length c, .slice a' m.length c'] 33)) w.heap.size 33 #[.bool neg, .slice a l.length c, .slice a' m.length c'] := Blk.new w _ _
  have hb0 : Below w.heap.size w (w.alloc (.cells #[.bool neg, .slice a l.length c, .slice a' m.length c'] 33)) := (Below.refl _ _).alloc (Nat.le_refl _) _
  clear h h' hn h0 hR
  go_enter Try.func40, Try.ntmps40
  go_wp2_with fail
  revert hz hb0
  generalize w.alloc (.cells #[.bool neg, .slice a l.length c, .slice a' m.length c'] 33) = w0
  intro hz hb0
  have z0 := hz.cell 0; have z1 := hz.cell 1; have z2 := hz.cell 2
  go_wp2_with fail
  refine (CP.out _ hb0).mono ?_
  rintro e w1 ⟨rfl, hb1⟩
  have hw1 := below_then hb0 hb1
  clear z0 z1 z2 hz hb0 hb1
  have hy : Blk (w1.alloc (.cells #[.bool neg, .slice a l.length c] 31)) w1.heap.size 31 #[.bool neg, .slice a l.length c] := Blk.new w1 _ _
  have hw2 := hw1.alloc hw1.size (.cells #[.bool neg, .slice a l.length c] 31)
  go_wp2_with fail
  refine (CS.out _ hw2).mono ?_
  rintro e w2 ⟨rfl, hb2⟩
  go_wp2
  go_ret
  exact ⟨rfl, below_then hw2 hb2⟩
set_option maxRecDepth 100000 in
set_option maxHeartbeats 1000000 in
theorem qsignR_any (neg : Bool) (l m : List Int) (n : Nat) (a a' : Option Addr) (c c' : Nat) (w : World) (h : NatR w a c l) (h' : NatR w a' c' m) (hn : val l = n) (h0 : val m ≠ 0) (hl : l.length ≤ 2000000) (hm : m.length ≤ 2000000) :
    Calls Try.prog 43 #[.agg #[.bool neg, .slice a l.length c, .slice a' m.length c']] w fun e w' => e = .returned (.int .i64 (sgnZ neg n)) ∧ Below w.heap.size w w' := by
  have CN := fun W (hW : Below w.heap.size w W) => qnormR_any neg l m n (val m) a a' c c' W (h.ext (Ext.below hW)) (h'.ext (Ext.below hW)) hn rfl hl hm
  have hs := lowest_sgn neg n (val m) h0
  have q1 := limbs_len_val h.u16
  rw [hn] at q1
  have r1 := limbs_len_mono (lowest_num neg n (val m))
  obtain ⟨t, ht⟩ : ∃ t, lowest neg n (val m) = t := ⟨_, rfl⟩
  rw [ht] at CN hs r1
  obtain ⟨s, N, D⟩ := t
  unfold RetF at CN
  dsimp only at CN hs r1
  have CS := fun b cb W (hV : NatR W b cb (limbs N)) => zsignR_any s (limbs N) N b cb W hV (val_limbs _) (by omega)
  rw [hs] at CS
  obtain ⟨R, hR⟩ : ∃ q, sgnZ neg n = q := ⟨_, rfl⟩
  rw [hR] at CS ⊢
  replace CN := Lib.hid CN; replace CS := Lib.hid CS
  have hz : Blk (w.alloc (.cells #[.bool neg, .slice a l.length c, .slice a' m.length c'] 33)) w.heap.size 33 #[.bool neg, .slice a l.length c, .slice a' m.length c'] := Blk.new w _ _
  have hb0 : Below w.heap.size w (w.alloc (.cells #[.bool neg, .slice a l.length c, .slice a' m.length c'] 33)) := (Below.refl _ _).alloc (Nat.le_refl _) _
  have hfl := fun a1 a2 c1 c2 W => rat_num s a1 (limbs N).length c1 a2 (limbs D).length c2 W
  clear h h' hn h0 hR ht hs r1 q1
  go_enter Try.func43, Try.ntmps43
  go_wp2_with fail
  revert hz hb0
  generalize w.alloc (.cells #[.bool neg, .slice a l.length c, .slice a' m.length c'] 33) = w0
  intro hz hb0
  have z0 := hz.cell 0; have z1 := hz.cell 1; have z2 := hz.cell 2
  go_wp2_with fail
  refine (CN.out _ hb0).mono ?_
  rintro e w1 ⟨a1, c1, a2, c2, rfl, hV1, hV2, hb1⟩
  have hw1 := below_then hb0 hb1
  have CS1 := CS.out a1 c1 w1 (hV1 w1 (New.refl _ _))
  replace CS1 := Lib.hid CS1
  have hf := hfl a1 a2 c1 c2 w1
  clear hV1 hV2 hb1 z0 z1 z2 hz hb0 hfl
  go_wp2_with fail
  refine CS1.out.mono ?_
  rintro e w2 ⟨rfl, hb2⟩
  go_wp2
  go_ret
  exact ⟨rfl, below_then hw1 hb2⟩
end Go.Proofs.Ytfahnnkppakiiaa

/- A statement whose order is open, walked once: as XRegion, but what waits for what is told by one pass over the operations (for many operations). No function of the program in sight. -/
namespace Go.Proofs.Ytfahnnkppakiiaa
open Go.RowKit

/-- the mask of the operation with number j, out of the masks of those before it, the last one first -/
def maskAt (acc : List Nat) (j : Nat) : Nat := if j < acc.length then acc.getD (acc.length - 1 - j) 0 else 0
def maskOf (md : Region.Mode) (acc : List Nat) (o : Oper) : Nat := o.after.toList.foldl (fun m e => if Region.binds md e then m ||| (2 ^ e.on ||| maskAt acc e.on) else m) 0
def goM (md : Region.Mode) (k : List Nat → Bool) : List Oper → List Nat → Bool
  | [], acc => k acc
  | o :: r, acc => match maskOf md acc o with
    | 0 => goM md k r (0 :: acc)
    | m + 1 => goM md k r ((m + 1) :: acc)
/-- what is of the tail waits for all that reads -/
def orderM (md : Region.Mode) (ops : Array Oper) (l : List (Nat × Mode4)) : Bool :=
  goM md (fun acc => l.all fun x => match x.2 with
    | .q => l.all fun y => !y.2.tail || (maskAt acc y.1).testBit x.1
    | _ => true) ops.toList []

def GoodM (md : Region.Mode) (ops : Array Oper) (acc : List Nat) : Prop := ∀ j i, (maskAt acc j).testBit i = true → ∀ n, j < n → dep md ops n j i = true
theorem fold_bit {md : Region.Mode} {acc : List Nat} {i : Nat} : ∀ (l : List Edge) (m : Nat), (l.foldl (fun m e => if Region.binds md e then m ||| (2 ^ e.on ||| maskAt acc e.on) else m) m).testBit i = true →
    m.testBit i = true ∨ ∃ e ∈ l, Region.binds md e = true ∧ (e.on = i ∨ (maskAt acc e.on).testBit i = true)
  | [], m, h => .inl h
  | e :: l, m, h => by
    rw [List.foldl_cons] at h
    rcases fold_bit l _ h with h1 | ⟨e', he, h2⟩
    · by_cases hb : Region.binds md e = true
      · rw [if_pos hb, Nat.testBit_or, Bool.or_eq_true] at h1
        rcases h1 with h1 | h1
        · exact .inl h1
        · rw [Nat.testBit_or, Bool.or_eq_true] at h1
          refine .inr ⟨e, by simp, hb, ?_⟩
          rcases h1 with h1 | h1
          · left; rw [Nat.testBit_two_pow] at h1; simpa using h1
          · exact .inr h1
      · rw [if_neg hb] at h1
        exact .inl h1
    · exact .inr ⟨e', by simp [he], h2⟩
theorem GoodM.step {md : Region.Mode} {ops : Array Oper} {acc : List Nat} {o : Oper} (h : GoodM md ops acc) (ho : ops[acc.length]? = some o) : GoodM md ops (maskOf md acc o :: acc) := by
  intro j i hj n hn
  unfold maskAt at hj
  split at hj
  · next hlt =>
    rw [List.length_cons] at hlt
    by_cases hje : j = acc.length
    · subst hje
      have : (maskOf md acc o :: acc).getD ((maskOf md acc o :: acc).length - 1 - acc.length) 0 = maskOf md acc o := by simp
      rw [this] at hj
      rcases fold_bit _ _ hj with h1 | ⟨e, he, hb, h1⟩
      · simp at h1
      · cases n with
        | zero => omega
        | succ n =>
          unfold dep
          rw [ho]
          dsimp only
          rw [Array.any_eq_true']
          refine ⟨e, by simpa using he, ?_⟩
          rw [hb, Bool.true_and, Bool.or_eq_true]
          rcases h1 with h1 | h1
          · left; simpa using h1
          · right
            have hlt2 : e.on < acc.length := by
              unfold maskAt at h1
              split at h1
              · assumption
              · simp at h1
            exact h _ _ h1 n (by omega)
    · have : (maskOf md acc o :: acc).getD ((maskOf md acc o :: acc).length - 1 - j) 0 = maskAt acc j := by
        unfold maskAt
        rw [if_pos (by omega), List.length_cons, show acc.length + 1 - 1 - j = (acc.length - 1 - j) + 1 by omega, List.getD_cons_succ]
      rw [this] at hj
      exact h _ _ hj n hn
  · simp at hj
theorem goM_good {md : Region.Mode} {ops : Array Oper} {k : List Nat → Bool} : ∀ (r : List Oper) (acc : List Nat), GoodM md ops acc → (∀ j, r[j]? = ops[acc.length + j]?) → goM md k r acc = true →
    ∃ acc', GoodM md ops acc' ∧ k acc' = true
  | [], acc, hg, _, h => ⟨acc, hg, h⟩
  | o :: r, acc, hg, hr, h => by
    have ho : ops[acc.length]? = some o := by have := hr 0; simpa using this.symm
    have hs := hg.step ho
    unfold goM at h
    have hr' : ∀ j, r[j]? = ops[acc.length + 1 + j]? := fun j => by have := hr (j + 1); rw [List.getElem?_cons_succ] at this; rw [this]; congr 1; omega
    split at h
    · next hm =>
      rw [hm] at hs
      exact goM_good r _ hs hr' h
    · next m hm =>
      rw [hm] at hs
      exact goM_good r _ hs hr' h
theorem orderB_of_M {md : Region.Mode} {ops : Array Oper} {l : List (Nat × Mode4)} (hd : decide (l.map (·.1)).Nodup = true) (hin : (l.all fun x => decide (x.1 < ops.size)) = true) (h : orderM md ops l = true) : orderB md ops l = true := by
  obtain ⟨acc, hg, hk⟩ := goM_good (ops := ops) ops.toList [] (fun j i hj => by simp [maskAt] at hj) (fun j => by simp) h
  unfold orderB
  rw [hd, Bool.true_and, List.all_eq_true]
  rw [List.all_eq_true] at hk hin
  intro x hx
  have h1 := hk x hx
  obtain ⟨xi, xm⟩ := x
  cases xm with
  | q =>
    dsimp only at h1 ⊢
    rw [List.all_eq_true] at h1 ⊢
    intro y hy
    have h2 := h1 y hy
    rw [Bool.or_eq_true] at h2 ⊢
    rcases h2 with h2 | h2
    · exact .inl h2
    · exact .inr (hg _ _ h2 _ (by simpa using hin y hy))
  | p => rfl
  | l => rfl
  | t => rfl

section
variable {P : Program} {ops : Array Oper} {Q : Exit → Act → World → Prop} {S : World → Prop}
/-- THE REGION, for many operations -/
theorem wp_region_mixM {id : Nat} {a : Act} {w : World} (l : List (Nat × Mode4)) (hm : P.follows .mixedOrders = true) (hs : Region.noSelect ops = true)
    (hB : ((l.length == ops.size && (decide (l.map (·.1)).Nodup && l.all fun x => decide (x.1 < ops.size))) && (orderM .any ops l && (lateB l false && mixB .any ops l (Array.replicate ops.size false)))) = true)
    (hQ : ∀ d v c a w, Q (.panic c) (a.put d v) w → Q (.panic c) a w) (hS : S w.drew) (h : wpMix P ops Q S l a w.drew) : (Code.region id ops true).wp P Q a w := by
  simp only [Bool.and_eq_true] at hB
  obtain ⟨⟨h1, h2, h3⟩, h4, h5, h6⟩ := hB
  refine wp_region_mix l hm hs ?_ hQ hS h
  rw [h1, orderB_of_M h2 h3 h4, h5, h6]; rfl
end
end Go.Proofs.Ytfahnnkppakiiaa

/- Walks: whether a polynomial is right, by the program and by the reference. -/
namespace Go.Proofs.Ytfahnnkppakiiaa
open Go.RowKit

theorem lex_any (s t : Trm) (p q : RA) (w : World) (h : IntsR w p.aa p.ac s.mono) (h' : IntsR w q.aa q.ac t.mono) :
    Calls Try.prog 42 #[s.val p, t.val q] w fun e w' => e = .returned (.int .i64 (lexI s.mono t.mono)) ∧ Below w.heap.size w w' := by
  have CC := fun W (hW : Below w.heap.size w W) => cmpP5_any s.mono t.mono p.aa q.aa p.ac q.ac W (h.ext (Ext.below hW)) (h'.ext (Ext.below hW))
  revert CC
  generalize lexI s.mono t.mono = R
  intro CC
  replace CC := Lib.hid CC
  unfold Trm.val
  have hx : Blk ((w.alloc (.cells #[.bool s.coef.neg, .slice p.na s.coef.num.length p.nc, .slice p.da s.coef.den.length p.dc, .slice p.aa s.mono.length p.ac] 67)).alloc (.cells #[.bool t.coef.neg, .slice q.na t.coef.num.length q.nc, .slice q.da t.coef.den.length q.dc, .slice q.aa t.mono.length q.ac] 67)) w.heap.size 67 #[.bool s.coef.neg, .slice p.na s.coef.num.length p.nc, .slice p.da s.coef.den.length p.dc, .slice p.aa s.mono.length p.ac] := (Blk.new w _ _).alloc _
  have hy : Blk ((w.alloc (.cells #[.bool s.coef.neg, .slice p.na s.coef.num.length p.nc, .slice p.da s.coef.den.length p.dc, .slice p.aa s.mono.length p.ac] 67)).alloc (.cells #[.bool t.coef.neg, .slice q.na t.coef.num.length q.nc, .slice q.da t.coef.den.length q.dc, .slice q.aa t.mono.length q.ac] 67)) (w.heap.size + 1) 67 #[.bool t.coef.neg, .slice q.na t.coef.num.length q.nc, .slice q.da t.coef.den.length q.dc, .slice q.aa t.mono.length q.ac] := blk_at1 w _ _ _
  have hb0 : Below w.heap.size w ((w.alloc (.cells #[.bool s.coef.neg, .slice p.na s.coef.num.length p.nc, .slice p.da s.coef.den.length p.dc, .slice p.aa s.mono.length p.ac] 67)).alloc (.cells #[.bool t.coef.neg, .slice q.na t.coef.num.length q.nc, .slice q.da t.coef.den.length q.dc, .slice q.aa t.mono.length q.ac] 67)) := by go_grown
  clear h h'
  go_enter Try.func42, Try.ntmps42
  go_wp2_with fail
  revert hx hy hb0
  generalize (w.alloc (.cells #[.bool s.coef.neg, .slice p.na s.coef.num.length p.nc, .slice p.da s.coef.den.length p.dc, .slice p.aa s.mono.length p.ac] 67)).alloc (.cells #[.bool t.coef.neg, .slice q.na t.coef.num.length q.nc, .slice q.da t.coef.den.length q.dc, .slice q.aa t.mono.length q.ac] 67) = w0
  intro hx hy hb0
  have z3 := hx.cell 3; have y3 := hy.cell 3
  go_wp2_with fail
  refine (CC.out _ hb0).mono ?_
  rintro e w1 ⟨rfl, rfl⟩
  go_wp2
  go_ret
  exact ⟨rfl, hb0⟩
theorem all_succ {P : Nat → Prop} {k : Nat} (h : ∀ j, j < k → P j) (hk : P k) : ∀ j, j < k + 1 → P j := fun j hj => by
  by_cases hjk : j = k
  · subst hjk; exact hk
  · exact h j (by omega)
theorem okT_coef {t : Trm} (h : t.coef.right = false) : okT t = false := by unfold okT; rw [h]; rfl
theorem okT_zero {t : Trm} (h : val t.coef.num = 0) : okT t = false := by unfold okT; rw [decide_eq_true h]; simp
theorem okT_mono {t : Trm} (h : monoB t.mono = false) : okT t = false := by unfold okT; rw [h]; simp
theorem okT_all {t : Trm} (h : t.coef.right = true) (h1 : val t.coef.num ≠ 0) (h2 : monoB t.mono = true) : okT t = true := by unfold okT; rw [h, h2, decide_eq_false h1]; rfl
theorem okT_range {t : Trm} (h : okT t = true) : ∀ x ∈ t.mono, 0 ≤ x ∧ x ≤ 1048576 := by
  unfold okT at h
  simp only [Bool.and_eq_true] at h
  exact (monoB_mem h.2).2
theorem right_den {r : Rt} (h : r.right = true) : 0 < r.den.length ∧ canonB r.den = true := by
  unfold Rt.right at h
  simp only [Bool.and_eq_true, decide_eq_true_eq] at h
  exact ⟨h.2, h.1.1.2⟩
theorem right_pos {r : Rt} (h : r.right = true) : val r.den ≠ 0 := by
  obtain ⟨h1, h2⟩ := right_den h
  intro h0
  have : limbs (val r.den) = r.den := of_decide_eq_true h2
  rw [h0, limbs_zero] at this
  rw [← this] at h1
  simp at h1
theorem sgnZ_eq (neg : Bool) (n : Nat) : (sgnZ neg n == 0) = decide (n = 0) := by
  unfold sgnZ
  by_cases h : n = 0
  · rw [if_pos h, decide_eq_true h]; rfl
  · rw [if_neg h, decide_eq_false h]; cases neg <;> rfl
set_option maxRecDepth 100000 in
set_option maxHeartbeats 8000000 in
theorem polyP_any (l : List Trm) (a : Option Addr) (c : Nat) (w : World) (h : PolyR w a c l) (hq : ∀ t ∈ l, t.coef.num.length ≤ 2000000 ∧ t.coef.den.length ≤ 2000000) :
    Calls Try.prog 21 #[.slice a l.length c] w fun e w' => e = .returned (.bool (polyB l)) ∧ Below w.heap.size w w' := by
  have hlen := h.len
  obtain ⟨res, hres⟩ : ∃ x, polyB l = x := ⟨_, rfl⟩
  rw [hres]
  have HRES := Lib.hid hres
  have HP := Lib.hid h
  have HQ := Lib.hid hq
  clear hres h hq
  go_enter Try.func21, Try.ntmps21
  go_wp2
  go_loopg [3, 4, 7] l.length (fun g _ _ q wr => ∃ k : Nat, k + g = l.length ∧ q = .int .i64 k ∧ Below w.heap.size w wr ∧ ∀ j, j < k → badAt l j = false)
  case atStart => exact ⟨0, by omega, rfl, Below.refl _ _, fun j hj => by omega⟩
  case round =>
    obtain ⟨k, hkg, rfl, hwr, hall⟩ := hrel
    have HKG := Lib.hid hkg
    have HA := Lib.hid hall
    clear hkg hall
    by_cases hlt : k < l.length
    · obtain ⟨t, ht⟩ := get_of_lt hlt
      have hPr := HP.out.ext (Ext.below hwr)
      have htq := HQ.out t (List.mem_of_getElem? ht)
      obtain ⟨b, off, hao, p, hC, hP⟩ := hPr.2.2 k t ht
      subst hao
      obtain ⟨c0, c1, c2, c3⟩ := hC
      obtain ⟨hP1, hP2, hP3⟩ := hP
      have HT := Lib.hid ht
      have HPR := Lib.hid hPr
      obtain ⟨⟨neg, num, den⟩, mono⟩ := t
      dsimp only at c0 c1 c2 c3 hP1 hP2 hP3 htq
      have CR := fun W (hW : Below wr.heap.size wr W) => rightQ_any ⟨neg, num, den⟩ p.na p.nc p.da p.dc W (hP2.ext (Ext.below hW)) (hP3.ext (Ext.below hW)) htq.1 htq.2
      unfold Rt.val at CR
      dsimp only at CR
      replace CR := Lib.hid CR
      have HP1 := Lib.hid hP1; have HP2 := Lib.hid hP2; have HP3 := Lib.hid hP3; have HTQ := Lib.hid htq
      have hbl : b < wr.heap.size := World.block_lt_of_cell? wr _ c0
      clear ht hPr hP1 hP2 hP3 htq
      have d0 := held ((ext_alloc wr (.cells #[.bool neg, .slice p.na num.length p.nc, .slice p.da den.length p.dc, .slice p.aa mono.length p.ac] 67)) _ _ c0)
      have d1 := held ((ext_alloc wr (.cells #[.bool neg, .slice p.na num.length p.nc, .slice p.da den.length p.dc, .slice p.aa mono.length p.ac] 67)) _ _ c1)
      have d2 := held ((ext_alloc wr (.cells #[.bool neg, .slice p.na num.length p.nc, .slice p.da den.length p.dc, .slice p.aa mono.length p.ac] 67)) _ _ c2)
      have d3 := held ((ext_alloc wr (.cells #[.bool neg, .slice p.na num.length p.nc, .slice p.da den.length p.dc, .slice p.aa mono.length p.ac] 67)) _ _ c3)
      have hx := Blk.new wr 67 #[.bool neg, .slice p.na num.length p.nc, .slice p.da den.length p.dc, .slice p.aa mono.length p.ac]
      have hw2 := hwr.alloc hwr.size (.cells #[.bool neg, .slice p.na num.length p.nc, .slice p.da den.length p.dc, .slice p.aa mono.length p.ac] 67)
      have hwa : Below wr.heap.size wr (wr.alloc (.cells #[.bool neg, .slice p.na num.length p.nc, .slice p.da den.length p.dc, .slice p.aa mono.length p.ac] 67)) := (Below.refl _ _).alloc (Nat.le_refl _) _
      go_wp2
      clear c0 c1 c2 c3
      have hwb : ∀ W, Below (wr.alloc (.cells #[.bool neg, .slice p.na num.length p.nc, .slice p.da den.length p.dc, .slice p.aa mono.length p.ac] 67)).heap.size (wr.alloc (.cells #[.bool neg, .slice p.na num.length p.nc, .slice p.da den.length p.dc, .slice p.aa mono.length p.ac] 67)) W → Below wr.heap.size wr W := fun W hW => below_then hwa hW
      clear hwa
      revert d0 d1 d2 d3 hx hw2 hwb
      generalize wr.alloc (.cells #[.bool neg, .slice p.na num.length p.nc, .slice p.da den.length p.dc, .slice p.aa mono.length p.ac] 67) = w2
      intro d0 d1 d2 d3 hx hw2 hwb
      have s0 : Below w2.heap.size w2 w2.drew := (Below.refl _ _).drew
      have k0 := held (hx.cell 0); have k1 := held (hx.cell 1); have k2 := held (hx.cell 2); have k3 := held (hx.cell 3)
      cases hr : Rt.right ⟨neg, num, den⟩ with
      | false =>
        rw [hr] at CR
        obtain rfl : res = false := by rw [← HRES.out]; exact polyB_bad hlt (badAt_term HT.out (okT_coef hr))
        clear hr
        refine wp_region_mixM (S := Below w2.heap.size w2) [(0, .q), (1, .q), (2, .l), (3, .q), (4, .q), (5, .q), (6, .q), (7, .l), (8, .q), (9, .q), (10, .q), (11, .q), (12, .q), (13, .l), (14, .q), (15, .q), (16, .q), (17, .q), (18, .q), (19, .q), (20, .q), (21, .q), (22, .q), (23, .q), (24, .q), (25, .q), (26, .t), (27, .p), (28, .p), (29, .p)] (by kernel_rfl) (by kernel_rfl) (by kernel_rfl) (fun d _ _ _ _ h => by cases d <;> exact h) (s0) ?_
        iterate 2 (refine wpMix_q rfl rfl (fun K hK => ?_); apply Exists.intro; refine ⟨fun w' hw' => ?_, ?_⟩; (focus (go_simp; try rfl)); go_simp; refine hK _ _ ?_; clear hK K)
        refine wpMix_l rfl rfl (fun K hK => ?_)
        go_simp
        refine (CR.out _ (hwb _ s0)).mono ?_
        rintro r w3 ⟨rfl, hb3⟩
        dsimp only
        refine hK.out _ _ (below_then s0 hb3) (fun _ => ?_)
        clear hK K
        have s1 := below_then s0 hb3
        iterate 2 (refine wpMix_q rfl rfl (fun K hK => ?_); apply Exists.intro; refine ⟨fun w' hw' => ?_, ?_⟩; (focus (go_simp; try rfl)); go_simp; refine hK _ _ ?_; clear hK K)
        iterate 4 (refine wpMix_skip rfl rfl (fun K hK => ?_); go_simp; refine hK _ _ ?_; clear hK K)
        iterate 2 (refine wpMix_q rfl rfl (fun K hK => ?_); apply Exists.intro; refine ⟨fun w' hw' => ?_, ?_⟩; (focus (go_simp; try rfl)); go_simp; refine hK _ _ ?_; clear hK K)
        iterate 4 (refine wpMix_skip rfl rfl (fun K hK => ?_); go_simp; refine hK _ _ ?_; clear hK K)
        iterate 2 (refine wpMix_q rfl rfl (fun K hK => ?_); apply Exists.intro; refine ⟨fun w' hw' => ?_, ?_⟩; (focus (go_simp; try rfl)); go_simp; refine hK _ _ ?_; clear hK K)
        iterate 12 (refine wpMix_skip rfl rfl (fun K hK => ?_); go_simp; refine hK _ _ ?_; clear hK K)
        iterate 1 (refine wpMix_p rfl rfl (fun K hK => ?_); apply Exists.intro; refine ⟨fun w' => ?_, ?_⟩; (focus (go_simp; try rfl)); go_simp; refine hK _ _ ?_; clear hK K)
        refine wpMix_nil ?_
        go_wp2
        go_ret
        exact ⟨rfl, below_then hw2 s1⟩
      | true =>
        rw [hr] at CR
        have hden := right_den hr
        have h0 : val den ≠ 0 := right_pos hr
        have CS := fun W (hW : Below wr.heap.size wr W) => qsign_any neg num den (val num) p.na p.da p.nc p.dc W (HP2.out.ext (Ext.below hW)) (HP3.out.ext (Ext.below hW)) rfl h0 HTQ.out.1 HTQ.out.2
        have CM := fun W (hW : Below wr.heap.size wr W) => monoP_any mono p.aa p.ac W (HP1.out.ext (Ext.below hW))
        have hsg := sgnZ_eq neg (val num)
        have HR := Lib.hid hr
        clear hden h0 hr
        by_cases hn0 : val num = 0
        · rw [decide_eq_true hn0] at hsg
          obtain rfl : res = false := by rw [← HRES.out]; exact polyB_bad hlt (badAt_term HT.out (okT_zero hn0))
          revert CS hsg
          generalize sgnZ neg (val num) = sg
          intro CS hsg
          replace CS := Lib.hid CS; replace CM := Lib.hid CM
          clear hn0
          refine wp_region_mixM (S := Below w2.heap.size w2) [(0, .q), (1, .q), (2, .l), (3, .q), (4, .q), (5, .q), (6, .q), (7, .l), (8, .q), (9, .q), (10, .q), (11, .q), (12, .q), (13, .l), (14, .q), (15, .q), (16, .q), (17, .q), (18, .q), (19, .q), (20, .q), (21, .q), (22, .q), (23, .q), (24, .q), (25, .q), (26, .t), (27, .p), (28, .p), (29, .p)] (by kernel_rfl) (by kernel_rfl) (by kernel_rfl) (fun d _ _ _ _ h => by cases d <;> exact h) (s0) ?_
          iterate 2 (refine wpMix_q rfl rfl (fun K hK => ?_); apply Exists.intro; refine ⟨fun w' hw' => ?_, ?_⟩; (focus (go_simp; try rfl)); go_simp; refine hK _ _ ?_; clear hK K)
          refine wpMix_l rfl rfl (fun K hK => ?_)
          go_simp
          refine (CR.out _ (hwb _ s0)).mono ?_
          rintro r w3 ⟨rfl, hb3⟩
          dsimp only
          refine hK.out _ _ (below_then s0 hb3) (fun _ => ?_)
          clear hK K
          have s1 := below_then s0 hb3
          iterate 4 (refine wpMix_q rfl rfl (fun K hK => ?_); apply Exists.intro; refine ⟨fun w' hw' => ?_, ?_⟩; (focus (go_simp; try rfl)); go_simp; refine hK _ _ ?_; clear hK K)
          refine wpMix_l rfl rfl (fun K hK => ?_)
          go_simp
          refine (CS.out _ (hwb _ s1)).mono ?_
          rintro r w4 ⟨rfl, hb4⟩
          dsimp only
          refine hK.out _ _ (below_then s1 hb4) (fun _ => ?_)
          clear hK K
          have s2 := below_then s1 hb4
          iterate 3 (refine wpMix_q rfl rfl (fun K hK => ?_); apply Exists.intro; refine ⟨fun w' hw' => ?_, ?_⟩; (focus (go_simp; try rfl)); go_simp; refine hK _ _ ?_; clear hK K)
          iterate 4 (refine wpMix_skip rfl rfl (fun K hK => ?_); go_simp; refine hK _ _ ?_; clear hK K)
          iterate 2 (refine wpMix_q rfl rfl (fun K hK => ?_); apply Exists.intro; refine ⟨fun w' hw' => ?_, ?_⟩; (focus (go_simp; try rfl)); go_simp; refine hK _ _ ?_; clear hK K)
          iterate 12 (refine wpMix_skip rfl rfl (fun K hK => ?_); go_simp; refine hK _ _ ?_; clear hK K)
          iterate 1 (refine wpMix_p rfl rfl (fun K hK => ?_); apply Exists.intro; refine ⟨fun w' => ?_, ?_⟩; (focus (go_simp; try rfl)); go_simp; refine hK _ _ ?_; clear hK K)
          refine wpMix_nil ?_
          go_wp2
          go_ret
          exact ⟨rfl, below_then hw2 s2⟩
        · rw [decide_eq_false hn0] at hsg
          have HN0 := Lib.hid hn0
          revert CS hsg
          generalize sgnZ neg (val num) = sg
          intro CS hsg
          replace CS := Lib.hid CS
          clear hn0
          cases hm : monoB mono with
          | false =>
            rw [hm] at CM
            replace CM := Lib.hid CM
            obtain rfl : res = false := by rw [← HRES.out]; exact polyB_bad hlt (badAt_term HT.out (okT_mono hm))
            clear hm
            refine wp_region_mixM (S := Below w2.heap.size w2) [(0, .q), (1, .q), (2, .l), (3, .q), (4, .q), (5, .q), (6, .q), (7, .l), (8, .q), (9, .q), (10, .q), (11, .q), (12, .q), (13, .l), (14, .q), (15, .q), (16, .q), (17, .q), (18, .q), (19, .q), (20, .q), (21, .q), (22, .q), (23, .q), (24, .q), (25, .q), (26, .t), (27, .p), (28, .p), (29, .p)] (by kernel_rfl) (by kernel_rfl) (by kernel_rfl) (fun d _ _ _ _ h => by cases d <;> exact h) (s0) ?_
            iterate 2 (refine wpMix_q rfl rfl (fun K hK => ?_); apply Exists.intro; refine ⟨fun w' hw' => ?_, ?_⟩; (focus (go_simp; try rfl)); go_simp; refine hK _ _ ?_; clear hK K)
            refine wpMix_l rfl rfl (fun K hK => ?_)
            go_simp
            refine (CR.out _ (hwb _ s0)).mono ?_
            rintro r w3 ⟨rfl, hb3⟩
            dsimp only
            refine hK.out _ _ (below_then s0 hb3) (fun _ => ?_)
            clear hK K
            have s1 := below_then s0 hb3
            iterate 4 (refine wpMix_q rfl rfl (fun K hK => ?_); apply Exists.intro; refine ⟨fun w' hw' => ?_, ?_⟩; (focus (go_simp; try rfl)); go_simp; refine hK _ _ ?_; clear hK K)
            refine wpMix_l rfl rfl (fun K hK => ?_)
            go_simp
            refine (CS.out _ (hwb _ s1)).mono ?_
            rintro r w4 ⟨rfl, hb4⟩
            dsimp only
            refine hK.out _ _ (below_then s1 hb4) (fun _ => ?_)
            clear hK K
            have s2 := below_then s1 hb4
            iterate 5 (refine wpMix_q rfl rfl (fun K hK => ?_); apply Exists.intro; refine ⟨fun w' hw' => ?_, ?_⟩; (focus (go_simp; try rfl)); go_simp; refine hK _ _ ?_; clear hK K)
            refine wpMix_l rfl rfl (fun K hK => ?_)
            go_simp
            refine (CM.out _ (hwb _ s2)).mono ?_
            rintro r w5 ⟨rfl, rfl⟩
            dsimp only
            refine hK.out _ _ (s2) (fun _ => ?_)
            clear hK K
            iterate 3 (refine wpMix_q rfl rfl (fun K hK => ?_); apply Exists.intro; refine ⟨fun w' hw' => ?_, ?_⟩; (focus (go_simp; try rfl)); go_simp; refine hK _ _ ?_; clear hK K)
            iterate 12 (refine wpMix_skip rfl rfl (fun K hK => ?_); go_simp; refine hK _ _ ?_; clear hK K)
            iterate 1 (refine wpMix_p rfl rfl (fun K hK => ?_); apply Exists.intro; refine ⟨fun w' => ?_, ?_⟩; (focus (go_simp; try rfl)); go_simp; refine hK _ _ ?_; clear hK K)
            refine wpMix_nil ?_
            go_wp2
            go_ret
            exact ⟨rfl, below_then hw2 s2⟩
          | true =>
            rw [hm] at CM
            replace CM := Lib.hid CM
            have hok : okT ⟨⟨neg, num, den⟩, mono⟩ = true := okT_all HR.out HN0.out hm
            have HOK := Lib.hid hok
            clear hm hok
            cases k with
            | zero =>
              have hbad := badAt_zero HT.out HOK.out
              have HB := Lib.hid hbad
              clear hbad
              refine wp_region_mixM (S := Below w2.heap.size w2) [(0, .q), (1, .q), (2, .l), (3, .q), (4, .q), (5, .q), (6, .q), (7, .l), (8, .q), (9, .q), (10, .q), (11, .q), (12, .q), (13, .l), (14, .q), (15, .q), (16, .q), (17, .q), (18, .q), (19, .q), (20, .q), (21, .q), (22, .q), (23, .q), (24, .q), (25, .q), (26, .t), (27, .p), (28, .p), (29, .p)] (by kernel_rfl) (by kernel_rfl) (by kernel_rfl) (fun d _ _ _ _ h => by cases d <;> exact h) (s0) ?_
              iterate 2 (refine wpMix_q rfl rfl (fun K hK => ?_); apply Exists.intro; refine ⟨fun w' hw' => ?_, ?_⟩; (focus (go_simp; try rfl)); go_simp; refine hK _ _ ?_; clear hK K)
              refine wpMix_l rfl rfl (fun K hK => ?_)
              go_simp
              refine (CR.out _ (hwb _ s0)).mono ?_
              rintro r w3 ⟨rfl, hb3⟩
              dsimp only
              refine hK.out _ _ (below_then s0 hb3) (fun _ => ?_)
              clear hK K
              have s1 := below_then s0 hb3
              iterate 4 (refine wpMix_q rfl rfl (fun K hK => ?_); apply Exists.intro; refine ⟨fun w' hw' => ?_, ?_⟩; (focus (go_simp; try rfl)); go_simp; refine hK _ _ ?_; clear hK K)
              refine wpMix_l rfl rfl (fun K hK => ?_)
              go_simp
              refine (CS.out _ (hwb _ s1)).mono ?_
              rintro r w4 ⟨rfl, hb4⟩
              dsimp only
              refine hK.out _ _ (below_then s1 hb4) (fun _ => ?_)
              clear hK K
              have s2 := below_then s1 hb4
              iterate 5 (refine wpMix_q rfl rfl (fun K hK => ?_); apply Exists.intro; refine ⟨fun w' hw' => ?_, ?_⟩; (focus (go_simp; try rfl)); go_simp; refine hK _ _ ?_; clear hK K)
              refine wpMix_l rfl rfl (fun K hK => ?_)
              go_simp
              refine (CM.out _ (hwb _ s2)).mono ?_
              rintro r w5 ⟨rfl, rfl⟩
              dsimp only
              refine hK.out _ _ (s2) (fun _ => ?_)
              clear hK K
              iterate 6 (refine wpMix_q rfl rfl (fun K hK => ?_); apply Exists.intro; refine ⟨fun w' hw' => ?_, ?_⟩; (focus (go_simp; try rfl)); go_simp; refine hK _ _ ?_; clear hK K)
              iterate 8 (refine wpMix_skip rfl rfl (fun K hK => ?_); go_simp; refine hK _ _ ?_; clear hK K)
              iterate 2 (refine wpMix_p rfl rfl (fun K hK => ?_); apply Exists.intro; refine ⟨fun w' => ?_, ?_⟩; (focus (go_simp; try rfl)); go_simp; refine hK _ _ ?_; clear hK K)
              refine wpMix_nil ?_
              go_wp2
              go_roundg (gk - 1)
              case rel => exact ⟨1, by have := HKG.out; omega, by go_num, below_then hw2 s2, all_succ HA.out HB.out⟩
              case measure => have := HKG.out; omega
            | succ j =>
              obtain ⟨s, hs⟩ := get_of_lt (xs := l) (k := j) (by omega)
              obtain ⟨b', off', hao, p', hC', hP'⟩ := HPR.out.2.2 j s hs
              injection hao with hao
              injection hao with hao1 hao2
              subst hao1 hao2
              obtain ⟨c0, c1, c2, c3⟩ := hC'
              have hbad := badAt_succ HT.out hs HOK.out
              have HB := Lib.hid hbad
              have e0 := fun W (hW : Below w2.heap.size w2 W) => Ext.below (hwb W hW) _ _ c0
              have e1 := fun W (hW : Below w2.heap.size w2 W) => Ext.below (hwb W hW) _ _ c1
              have e2 := fun W (hW : Below w2.heap.size w2 W) => Ext.below (hwb W hW) _ _ c2
              have e3 := fun W (hW : Below w2.heap.size w2 W) => Ext.below (hwb W hW) _ _ c3
              have CL := fun W (hW : Below wr.heap.size wr W) => lex_any s ⟨⟨neg, num, den⟩, mono⟩ p' p W (hP'.1.ext (Ext.below hW)) (HP1.out.ext (Ext.below hW))
              unfold Trm.val at CL
              dsimp only at CL hbad
              revert CL hbad
              generalize lexI s.mono mono = lx
              intro hbad CL
              have hwk : IntKind.i64.wrap (j : Int) = (j : Int) := by rw [IntKind.wrap_i64]; omega
              replace CL := Lib.hid CL
              have HBD := Lib.hid hbad
              have hjl : j < l.length := by omega
              clear hbad HB hP' hs c0 c1 c2 c3
              by_cases hlx : lx ≤ 0
              · have hle : decide (lx ≤ 0) = true := by simpa using hlx
                obtain rfl : res = false := by rw [← HRES.out]; exact polyB_bad hlt (HBD.out.trans hle)
                clear hlx HBD
                refine wp_region_mixM (S := Below w2.heap.size w2) [(0, .q), (1, .q), (2, .l), (3, .q), (4, .q), (5, .q), (6, .q), (7, .l), (8, .q), (9, .q), (10, .q), (11, .q), (12, .q), (13, .l), (14, .q), (15, .q), (16, .q), (17, .q), (18, .q), (19, .q), (20, .q), (21, .q), (22, .q), (23, .q), (24, .q), (25, .q), (26, .t), (27, .p), (28, .p), (29, .p)] (by kernel_rfl) (by kernel_rfl) (by kernel_rfl) (fun d _ _ _ _ h => by cases d <;> exact h) (s0) ?_
                iterate 2 (refine wpMix_q rfl rfl (fun K hK => ?_); apply Exists.intro; refine ⟨fun w' hw' => ?_, ?_⟩; (focus (go_simp; try rfl)); go_simp; refine hK _ _ ?_; clear hK K)
                refine wpMix_l rfl rfl (fun K hK => ?_)
                go_simp
                refine (CR.out _ (hwb _ s0)).mono ?_
                rintro r w3 ⟨rfl, hb3⟩
                dsimp only
                refine hK.out _ _ (below_then s0 hb3) (fun _ => ?_)
                clear hK K
                have s1 := below_then s0 hb3
                iterate 4 (refine wpMix_q rfl rfl (fun K hK => ?_); apply Exists.intro; refine ⟨fun w' hw' => ?_, ?_⟩; (focus (go_simp; try rfl)); go_simp; refine hK _ _ ?_; clear hK K)
                refine wpMix_l rfl rfl (fun K hK => ?_)
                go_simp
                refine (CS.out _ (hwb _ s1)).mono ?_
                rintro r w4 ⟨rfl, hb4⟩
                dsimp only
                refine hK.out _ _ (below_then s1 hb4) (fun _ => ?_)
                clear hK K
                have s2 := below_then s1 hb4
                iterate 5 (refine wpMix_q rfl rfl (fun K hK => ?_); apply Exists.intro; refine ⟨fun w' hw' => ?_, ?_⟩; (focus (go_simp; try rfl)); go_simp; refine hK _ _ ?_; clear hK K)
                refine wpMix_l rfl rfl (fun K hK => ?_)
                go_simp
                refine (CM.out _ (hwb _ s2)).mono ?_
                rintro r w5 ⟨rfl, rfl⟩
                dsimp only
                refine hK.out _ _ (s2) (fun _ => ?_)
                clear hK K
                iterate 6 (refine wpMix_q rfl rfl (fun K hK => ?_); apply Exists.intro; refine ⟨fun w' hw' => ?_, ?_⟩; (focus (go_simp; try rfl)); go_simp; refine hK _ _ ?_; clear hK K)
                iterate 6 (refine wpMix_q rfl rfl (fun K hK => ?_); apply Exists.intro; refine ⟨fun w' hw' => ?_, ?_⟩; (focus (go_simp; try rfl)); go_simp; refine hK _ _ ?_; clear hK K)
                refine wpMix_t rfl rfl (fun K hK => ?_)
                go_simp
                refine (CL.out _ (hwb _ s2)).mono ?_
                rintro r w6 ⟨rfl, hb6⟩
                dsimp only
                refine hK.out _ _ ?_
                clear hK K
                have s3 := below_then s2 hb6
                iterate 3 (refine wpMix_p rfl rfl (fun K hK => ?_); apply Exists.intro; refine ⟨fun w' => ?_, ?_⟩; (focus (go_simp; try rfl)); go_simp; refine hK _ _ ?_; clear hK K)
                refine wpMix_nil ?_
                go_wp2
                go_ret
                exact ⟨rfl, below_then hw2 s3⟩
              · have hle : decide (lx ≤ 0) = false := by simpa using hlx
                have HB := Lib.hid (HBD.out.trans hle)
                clear hlx HBD
                refine wp_region_mixM (S := Below w2.heap.size w2) [(0, .q), (1, .q), (2, .l), (3, .q), (4, .q), (5, .q), (6, .q), (7, .l), (8, .q), (9, .q), (10, .q), (11, .q), (12, .q), (13, .l), (14, .q), (15, .q), (16, .q), (17, .q), (18, .q), (19, .q), (20, .q), (21, .q), (22, .q), (23, .q), (24, .q), (25, .q), (26, .t), (27, .p), (28, .p), (29, .p)] (by kernel_rfl) (by kernel_rfl) (by kernel_rfl) (fun d _ _ _ _ h => by cases d <;> exact h) (s0) ?_
                iterate 2 (refine wpMix_q rfl rfl (fun K hK => ?_); apply Exists.intro; refine ⟨fun w' hw' => ?_, ?_⟩; (focus (go_simp; try rfl)); go_simp; refine hK _ _ ?_; clear hK K)
                refine wpMix_l rfl rfl (fun K hK => ?_)
                go_simp
                refine (CR.out _ (hwb _ s0)).mono ?_
                rintro r w3 ⟨rfl, hb3⟩
                dsimp only
                refine hK.out _ _ (below_then s0 hb3) (fun _ => ?_)
                clear hK K
                have s1 := below_then s0 hb3
                iterate 4 (refine wpMix_q rfl rfl (fun K hK => ?_); apply Exists.intro; refine ⟨fun w' hw' => ?_, ?_⟩; (focus (go_simp; try rfl)); go_simp; refine hK _ _ ?_; clear hK K)
                refine wpMix_l rfl rfl (fun K hK => ?_)
                go_simp
                refine (CS.out _ (hwb _ s1)).mono ?_
                rintro r w4 ⟨rfl, hb4⟩
                dsimp only
                refine hK.out _ _ (below_then s1 hb4) (fun _ => ?_)
                clear hK K
                have s2 := below_then s1 hb4
                iterate 5 (refine wpMix_q rfl rfl (fun K hK => ?_); apply Exists.intro; refine ⟨fun w' hw' => ?_, ?_⟩; (focus (go_simp; try rfl)); go_simp; refine hK _ _ ?_; clear hK K)
                refine wpMix_l rfl rfl (fun K hK => ?_)
                go_simp
                refine (CM.out _ (hwb _ s2)).mono ?_
                rintro r w5 ⟨rfl, rfl⟩
                dsimp only
                refine hK.out _ _ (s2) (fun _ => ?_)
                clear hK K
                iterate 6 (refine wpMix_q rfl rfl (fun K hK => ?_); apply Exists.intro; refine ⟨fun w' hw' => ?_, ?_⟩; (focus (go_simp; try rfl)); go_simp; refine hK _ _ ?_; clear hK K)
                iterate 6 (refine wpMix_q rfl rfl (fun K hK => ?_); apply Exists.intro; refine ⟨fun w' hw' => ?_, ?_⟩; (focus (go_simp; try rfl)); go_simp; refine hK _ _ ?_; clear hK K)
                refine wpMix_t rfl rfl (fun K hK => ?_)
                go_simp
                refine (CL.out _ (hwb _ s2)).mono ?_
                rintro r w6 ⟨rfl, hb6⟩
                dsimp only
                refine hK.out _ _ ?_
                clear hK K
                have s3 := below_then s2 hb6
                iterate 3 (refine wpMix_p rfl rfl (fun K hK => ?_); apply Exists.intro; refine ⟨fun w' => ?_, ?_⟩; (focus (go_simp; try rfl)); go_simp; refine hK _ _ ?_; clear hK K)
                refine wpMix_nil ?_
                go_wp2
                go_roundg (gk - 1)
                case rel => exact ⟨j + 1 + 1, by have := HKG.out; omega, by go_num, below_then hw2 s3, all_succ HA.out HB.out⟩
                case measure => have := HKG.out; omega
    · obtain rfl : res = true := by rw [← HRES.out]; exact polyB_good fun i hi => HA.out i (by omega)
      go_wp2
      go_ret
      exact ⟨rfl, hwr⟩
end Go.Proofs.Ytfahnnkppakiiaa
