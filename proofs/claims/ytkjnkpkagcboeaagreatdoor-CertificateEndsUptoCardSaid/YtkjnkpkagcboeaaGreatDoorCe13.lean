/- Where an error of a sum's text stands: the law. Plain. -/
import Derived.Test.YtkjnkpkagcboeaaGreatDoorCe12
import Derived.Test.YtkjnkpkagcboeaaGreatDoorCe9
set_option linter.all false
set_option maxRecDepth 100000
set_option maxHeartbeats 4000000
namespace Go.Proofs.YtkjnkpkagcboeaaGreatDoor
open Go.RowKit
def oneP (t : Tm) : List Tm := if t.1 = 0 then [] else [t]
def normP (l : List Tm) : List Tm := l.foldl (fun p t => addP p (oneP t)) []
theorem oneP_ok {B : Int} {t : Tm} (h : Mok B t.2) : Pok B (oneP t) := by
 unfold oneP
 split
 · exact Pok.nil B
 · next h0 => exact (Pok.nil B).cons h h0 fun s hs => by cases hs
theorem oneP_coef (t : Tm) (m : List Int) : coefP (oneP t) m = if t.2 = m then t.1 else 0 := by
 unfold oneP
 split
 · next h => rw [h]; simp [coefP]
 · rw [coefP_cons]; simp [coefP, Rat.add_zero]
theorem normP_from {B : Int} : ∀ (l p : List Tm), Pok B p -> (∀ t ∈ l, Mok B t.2) -> Pok B (l.foldl (fun p t => addP p (oneP t)) p) /\ ∀ m, coefP (l.foldl (fun p t => addP p (oneP t)) p) m = coefP p m + coefP l m
 | [], p, hp, _ => ⟨hp, fun m => by simp [coefP, Rat.add_zero]⟩
 | t :: l, p, hp, hl => by
  have h1 := oneP_ok (hl t (by simp))
  obtain ⟨h2, h3⟩ := normP_from l _ (addP_ok hp h1) fun x hx => hl x (by simp [hx])
  refine ⟨h2, fun m => ?_⟩
  rw [List.foldl_cons, h3, coefP_add hp.1 h1.1, oneP_coef, coefP_cons, Rat.add_assoc]
theorem normP_ok {B : Int} {l : List Tm} (h : ∀ t ∈ l, Mok B t.2) : Pok B (normP l) /\ ∀ m, coefP (normP l) m = coefP l m := by
 obtain ⟨h1, h2⟩ := normP_from l [] (Pok.nil B) h
 exact ⟨h1, fun m => by unfold normP; rw [h2]; simp [coefP, Rat.zero_add]⟩
theorem normP_self {B : Int} {p : List Tm} (h : Pok B p) : normP p = p := by
 obtain ⟨h1, h2⟩ := normP_ok fun t ht => (h.1 t ht).1
 exact pok_ext h1 h h2
theorem sumC_ones : ∀ (l : List Tm) (m : List Int), sumC ((l.filter fun t => !(decide (t.1 = 0))).map fun t => [t]) m = coefP l m
 | [], m => rfl
 | t :: l, m => by
  rw [List.filter_cons, coefP_cons, <- sumC_ones l m]
  by_cases h : t.1 = 0
  · rw [if_neg (by simp [h]), h]; simp [Rat.zero_add]
  ·
   rw [if_pos (by simp [h]), List.map_cons, sumC, coefP_cons]
   simp [coefP, Rat.add_zero]
theorem normP_halves {B : Int} {l : List Tm} (h : ∀ t ∈ l, Mok B t.2) : halvesP ((l.filter fun t => !(decide (t.1 = 0))).map fun t => [t]) = normP l := by
 obtain ⟨h1, h2⟩ := normP_ok h
 have h5 : ∀ p ∈ (l.filter fun t => !(decide (t.1 = 0))).map fun t => [t], Pok B p := fun p hp => by
  obtain ⟨t, ht, rfl⟩ := List.mem_map.1 hp
  rw [List.mem_filter] at ht
  exact (Pok.nil B).cons (h t ht.1) (by simpa using ht.2) fun s hs => by cases hs
 obtain ⟨h3, h4⟩ := halvesP_ok _ h5
 exact pok_ext h3 h1 fun m => by rw [h4, h2, sumC_ones]
theorem monoB_ok {m : List Int} (h : monoB m = true) : Mok 1048576 m := by
 have g := monoB_mem h
 exact ⟨g.2, (fun e => by rw [monoB_last e] at h; cases h), g.1⟩
theorem okT_fine {t : Trm} (h : okT t = true) : t.coef.right = true /\ monoB t.mono = true /\ t.coef.q ≠ 0 := by
 unfold okT at h
 simp only [Bool.and_eq_true, Bool.not_eq_true', decide_eq_false_iff_not] at h
 refine ⟨h.1.1, h.2, fun e => h.1.2 ?_⟩
 have hr := (right_trip h.1.1).2.1
 rw [e] at hr
 rw [<- hr, show (0 : Rat).num.natAbs = 0 from rfl, limbs_zero]
 rfl
theorem polyB_at {l : List Trm} (h : polyB l = true) {i : Nat} (hi : i < l.length) : badAt l i = false := by
 unfold polyB at h
 rw [List.all_eq_true] at h
 simpa using h i (List.mem_range.2 hi)
theorem polyB_pok {l : List Trm} (h : polyB l = true) : Pok 1048576 (l.map trmQ) := by
 have hok : ∀ t ∈ l, okT t = true := fun t ht => by
  obtain ⟨i, hi⟩ := List.getElem?_of_mem ht
  exact badAt_ok hi (polyB_at h (lt_of_get hi))
 refine ⟨fun s hs => ?_, ?_⟩
 ·
  obtain ⟨t, ht, rfl⟩ := List.mem_map.1 hs
  obtain ⟨h1, h2, h3⟩ := okT_fine (hok t ht)
  exact ⟨monoB_ok h2, h3⟩
 ·
  rw [List.pairwise_map]
  have hnext : ∀ i (hi : i + 1 < l.length), gtM l[i].mono l[i + 1].mono := fun i hi => by
   have h1 := polyB_at h hi
   rw [badAt_succ (List.getElem?_eq_getElem hi) (List.getElem?_eq_getElem (by omega)) (hok _ (List.getElem_mem hi))] at h1
   rw [<- lexI_pos]
   have := of_decide_eq_false h1
   omega
  rw [List.pairwise_iff_getElem]
  intro i j hi hj hij
  show gtM l[i].mono l[j].mono
  clear h hok
  induction j with
  | zero => omega
  | succ j ih =>
   by_cases e : i = j
   · subst e; exact hnext i hj
   · exact gtM_trans (ih (by omega) (by omega)) (hnext j hj)
theorem normP_poly {l : List Trm} (h : polyB l = true) : normP (l.map trmQ) = l.map trmQ := normP_self (polyB_pok h)
theorem polyB_ok {l : List Trm} (h : polyB l = true) : ∀ t ∈ l, okT t = true := fun t ht => by
 obtain ⟨i, hi⟩ := List.getElem?_of_mem ht
 exact badAt_ok hi (polyB_at h (lt_of_get hi))
theorem bigB_no {l : List Trm} {n : Nat} (h : bigB l n = false) : ∀ t ∈ l, t.mono.length <= n := fun t ht => by
 unfold bigB at h
 rw [List.any_eq_false] at h
 have := h t ht
 simp at this
 omega
theorem printP_good {l : List Trm} {names : List ByteArray} (h : (printP l names).2 = 0) : polyB l = true /\ errNm names = 0 /\ bigB l names.length = false /\ (printP l names).1.data.toList = if l.length = 0 then [48] else bodyL names l := by
 unfold printP at h ⊢
 split
 ·
  next h1 =>
  rw [if_pos h1] at h
  split
  ·
   next h2 =>
   rw [if_pos h2] at h
   split
   · next h3 => rw [if_pos h3] at h; simp at h
   ·
    next h3 =>
    refine ⟨h1, h2, by simpa using h3, ?_⟩
    split
    · rfl
    · exact polyTo_all names l
  · next h2 => rw [if_neg h2] at h; exact (h2 h).elim
 · next h1 => rw [if_neg h1] at h; cases h
def readP (names : List ByteArray) (s : List UInt8) : Got (List Tm) := (reaG names s).bnd fun l r => .ok (normP l) r
theorem readP_print {l : List Trm} {names : List ByteArray} (h : (printP l names).2 = 0) (hl : l.length <= 4000) (hs : ∀ t ∈ l, shortQ (absQ t.coef.q)) : readP names (printP l names).1.data.toList = .ok (l.map trmQ) [] := by
 obtain ⟨h1, h2, h3, h4⟩ := printP_good h
 rw [h4]
 unfold readP
 split
 ·
  next h0 =>
  have e : l = [] := List.length_eq_zero_iff.1 h0
  subst e
  rw [reaG_zero]
  show Got.ok (normP [(0, [])]) [] = _
  have : normP [((0 : Rat), ([] : List Int))] = [] := by simp [normP, oneP, addP_nil]
  rw [this]
  rfl
 ·
  next h0 =>
  rw [reaG_text h2 (fun e => h0 (by rw [e]; rfl)) hl fun t ht => ⟨(polyB_terms h1 t ht).2, bigB_no h3 t ht, hs t ht⟩]
  show Got.ok (normP (l.map trmQ)) [] = _
  rw [normP_poly h1]
def tailT (names : List ByteArray) (p : List Tm) : List UInt8 := p.flatMap fun t => sepL t.1 ++ termL names t.1 t.2
def bodyT (names : List ByteArray) : List Tm -> List UInt8
 | [] => [48]
 | t :: r => (if t.1 < 0 then [45] else []) ++ (termL names t.1 t.2 ++ tailT names r)
def bigT (p : List Tm) (n : Nat) : Bool := p.any fun t => decide (n < t.2.length)
def printT (names : List ByteArray) (p : List Tm) : List UInt8 × Int := if errNm names = 0 then if bigT p names.length = true then ([], 6) else (bodyT names p, 0) else ([], errNm names)
theorem tailT_of (names : List ByteArray) (l : List Trm) : tailL names l = tailT names (l.map trmQ) := by
 unfold tailL tailT; rw [List.flatMap_map]; rfl
theorem bodyT_of (names : List ByteArray) (l : List Trm) : (if l.length = 0 then [48] else bodyL names l) = bodyT names (l.map trmQ) := by
 cases l with
 | nil => rfl
 | cons t r =>
  rw [if_neg (by simp), bodyL, tailT_of]
  rfl
theorem bigT_of (l : List Trm) (n : Nat) : bigB l n = bigT (l.map trmQ) n := by unfold bigB bigT; rw [List.any_map]; rfl
theorem printT_of {names : List ByteArray} {l : List Trm} (h : polyB l = true) : printP l names = (ofL (printT names (l.map trmQ)).1, (printT names (l.map trmQ)).2) := by
 unfold printP printT
 rw [if_pos h, <- bigT_of, <- bodyT_of]
 split
 ·
  split
  · rfl
  ·
   split
   · rfl
   ·
    refine Prod.ext ?_ rfl
    apply ba_ext
    rw [polyTo_all, ofL_list]
 · rfl
def polC (names : List ByteArray) (s : List UInt8) : Option (List Tm) × Int :=
 if errNm names = 0 then match readP names s with
  | .bad _ e => (none, e)
  | .ok p _ => if printT names p = (s, 0) then (some p, 0) else (none, 9)
 else (none, errNm names)
theorem polC_print {l : List Trm} {names : List ByteArray} (h : (printP l names).2 = 0) (hl : l.length <= 4000) (hs : ∀ t ∈ l, shortQ (absQ t.coef.q)) : polC names (printP l names).1.data.toList = (some (l.map trmQ), 0) := by
 have h1 := readP_print h hl hs
 have h2 := printP_good h
 unfold polC
 rw [if_pos h2.2.1, h1]
 dsimp only
 rw [if_pos]
 have h3 := printT_of (names := names) h2.1
 have h4 : (printT names (l.map trmQ)).2 = 0 := by rw [h3] at h; exact h
 refine Prod.ext ?_ h4
 rw [h3, ofL_list]
theorem polC_form {names : List ByteArray} {s : List UInt8} {p : List Tm} {e : Int} (h : polC names s = (some p, e)) : e = 0 /\ printT names p = (s, 0) /\ ∃ r, readP names s = .ok p r := by
 unfold polC at h
 split at h
 ·
  split at h
  · cases h
  ·
   next p' r hr =>
   split at h
   ·
    next hp =>
    injection h with a b
    injection a with a
    subst a
    exact ⟨b.symm, hp, r, hr⟩
   · cases h
 · cases h
def cutL (b : UInt8) : List UInt8 -> Option (List UInt8 × List UInt8)
 | [] => none
 | c :: r => if c = b then some ([], r) else (cutL b r).map fun p => (c :: p.1, p.2)
theorem cutL_at (b : UInt8) : ∀ (t r : List UInt8), (∀ c ∈ t, c ≠ b) -> cutL b (t ++ b :: r) = some (t, r)
 | [], r, _ => by rw [List.nil_append, cutL, if_pos rfl]
 | c :: t, r, h => by
  rw [List.cons_append, cutL, if_neg (h c (by simp)), cutL_at b t r fun x hx => h x (by simp [hx])]
  rfl
theorem cutL_none (b : UInt8) : ∀ (t : List UInt8), (∀ c ∈ t, c ≠ b) -> cutL b t = none
 | [], _ => rfl
 | c :: t, h => by
  rw [cutL, if_neg (h c (by simp)), cutL_none b t fun x hx => h x (by simp [hx])]
  rfl
theorem cutL_some (b : UInt8) : ∀ (l t r : List UInt8), cutL b l = some (t, r) -> l = t ++ b :: r /\ ∀ c ∈ t, c ≠ b
 | [], _, _, h => by cases h
 | c :: l, t, r, h => by
  rw [cutL] at h
  split at h
  ·
   next hc =>
   injection h with h
   injection h with h1 h2
   subst h1 h2 hc
   exact ⟨rfl, fun x hx => by cases hx⟩
  ·
   next hc =>
   cases hl : cutL b l with
   | none => rw [hl] at h; cases h
   | some p =>
    rw [hl] at h
    injection h with h
    injection h with h1 h2
    obtain ⟨g1, g2⟩ := cutL_some b l p.1 p.2 hl
    subst h1 h2
    refine ⟨by rw [List.cons_append, <- g1], fun x hx => ?_⟩
    rcases List.mem_cons.1 hx with e | e
    · subst e; exact hc
    · exact g2 x e
def numC (least : Nat) (s : List UInt8) : Option Nat := (List.range 65).find? fun n => decide (least <= n) && decide (textN n = s)
theorem textN_inj {n m : Nat} (h : textN n = textN m) : n = m := by rw [<- decL_text n, h, decL_text]
theorem numC_text {least n : Nat} (h : least <= n) (hn : n <= 64) : numC least (textN n) = some n := by
 unfold numC
 rw [List.find?_eq_some_iff_getElem]
 refine ⟨by simp [h], n, by simp; omega, by simp, fun j hj => ?_⟩
 simp only [List.getElem_range, Bool.not_eq_true', Bool.and_eq_false_iff, decide_eq_false_iff_not]
 exact .inr fun e => by have := textN_inj e; omega
theorem numC_some {least n : Nat} {s : List UInt8} (h : numC least s = some n) : least <= n /\ n <= 64 /\ textN n = s := by
 unfold numC at h
 have h1 := List.find?_some h
 have h2 := List.mem_of_find?_eq_some h
 rw [List.mem_range] at h2
 simp only [Bool.and_eq_true, decide_eq_true_eq] at h1
 exact ⟨h1.1, by omega, h1.2⟩
def lnF (names : List ByteArray) (p : List Trm) (x : Int) : ByteArray := ⟨#[102, 97, 99, 116, 111, 114, 32]⟩ ++ ofL (textN x.toNat) ++ ⟨#[32]⟩ ++ (printP p names).1
def lnC (names : List ByteArray) (p : List Trm) : ByteArray := ⟨#[99, 111, 102, 97, 99, 116, 111, 114, 32]⟩ ++ (printP p names).1
def ln0 (n : Int) : ByteArray := ⟨#[112, 111, 119, 101, 114, 32]⟩ ++ ofL (textN n.toNat)
def lnsF (names : List ByteArray) (F : List (List Trm)) (P : List Int) (n : Int) (k : Nat) : List ByteArray := ln0 n :: (List.range k).map fun i => lnF names (F.getD i []) (P.getD i 0)
def lnsC (names : List ByteArray) (F C : List (List Trm)) (P : List Int) (n : Int) (k : Nat) : List ByteArray := lnsF names F P n F.length ++ (List.range k).map fun i => lnC names (C.getD i [])
theorem lnsF_succ {names : List ByteArray} {F : List (List Trm)} {P : List Int} {n : Int} {k : Nat} {p : List Trm} {x : Int} (h : F[k]? = some p) (h' : P[k]? = some x) : lnsF names F P n (k + 1) = lnsF names F P n k ++ [lnF names p x] := by
 unfold lnsF
 rw [List.range_succ, List.map_append]
 simp [h, h']
theorem lnsC_zero (names : List ByteArray) (F C : List (List Trm)) (P : List Int) (n : Int) : lnsC names F C P n 0 = lnsF names F P n F.length := by simp [lnsC]
theorem lnsC_succ {names : List ByteArray} {F C : List (List Trm)} {P : List Int} {n : Int} {k : Nat} {p : List Trm} (h : C[k]? = some p) : lnsC names F C P n (k + 1) = lnsC names F C P n k ++ [lnC names p] := by
 unfold lnsC
 rw [List.range_succ, List.map_append]
 simp [h]
theorem lnsF_len (names : List ByteArray) (F : List (List Trm)) (P : List Int) (n : Int) (k : Nat) : (lnsF names F P n k).length = k + 1 := by simp [lnsF]
theorem lnsC_len (names : List ByteArray) (F C : List (List Trm)) (P : List Int) (n : Int) (k : Nat) : (lnsC names F C P n k).length = F.length + 1 + k := by simp [lnsC, lnsF]; omega
def nlB : ByteArray := ⟨#[10]⟩
def catL (l : List ByteArray) : ByteArray := ofL (l.flatMap fun x => x.data.toList ++ [10])
theorem catL_join (l : List ByteArray) (h : l ≠ []) : joinB l nlB ++ nlB = catL l := by
 cases l with
 | nil => exact absurd rfl h
 | cons x r =>
  apply ba_ext
  unfold catL ofL joinB nlB
  rw [List.map_cons, Lib.join_cons]
  unfold Lib.joinTail
  simp only [ByteArray.data_append, Array.toList_append, List.flatMap_cons, List.append_assoc]
  congr 1
  clear h
  induction r with
  | nil => rfl
  | cons y t ih =>
   simp only [List.map_cons, List.flatten_cons, List.flatMap_cons, List.append_assoc] at ih ⊢
   rw [ih]
   first | done | simp
def errL (names : List ByteArray) : List (List Trm) -> Int
 | [] => 0
 | p :: r => if (printP p names).2 = 0 then errL names r else (printP p names).2
theorem errL_at {names : List ByteArray} {l : List (List Trm)} {k : Nat} {p : List Trm} (h : l[k]? = some p) : errL names (l.drop k) = if (printP p names).2 = 0 then errL names (l.drop (k + 1)) else (printP p names).2 := by
 have hk := lt_of_get h
 rw [List.drop_eq_getElem_cons hk, show l[k] = p from (List.getElem?_eq_some_iff.1 h).2, errL]
theorem errL_end (names : List ByteArray) (l : List (List Trm)) : errL names (l.drop l.length) = 0 := by rw [List.drop_length]; rfl
def endB : ByteArray := ⟨#[101, 110, 100, 10]⟩
def textC (names : List ByteArray) (F C : List (List Trm)) (P : List Int) (n : Int) (b : Bool) : ByteArray × Int :=
 if b = true then if errL names F = 0 then if errL names C = 0 then (catL (lnsC names F C P n C.length) ++ endB, 0) else (⟨#[]⟩, errL names C) else (⟨#[]⟩, errL names F) else (⟨#[]⟩, 1)
theorem printP_size {p : List Trm} {names : List ByteArray} (hq : ∀ t ∈ p, (termB t.coef.q t.mono names).size <= 1400000000) (hl : p.length <= 1000) : (printP p names).1.size <= 1400000003000 := by
 unfold printP
 split
 ·
  split
  ·
   split
   · exact Nat.zero_le _
   ·
    split
    · show 1 <= _; omega
    · exact Nat.le_trans (polyTo_size hq _) (Nat.le_trans (Nat.mul_le_mul_right _ hl) (by omega))
  · exact Nat.zero_le _
 · exact Nat.zero_le _
theorem catL_size {L : Nat} : ∀ {l : List ByteArray}, shortP L l -> (catL l).size <= l.length * (L + 1)
 | [], _ => Nat.zero_le _
 | x :: r, h => by
  have ih := catL_size (l := r) fun s hs => h s (by simp [hs])
  have hx := h x (by simp)
  have e : (catL (x :: r)).size = x.size + 1 + (catL r).size := by
   unfold catL
   rw [ofL_size, ofL_size, List.flatMap_cons, List.length_append, List.length_append]
   show x.data.toList.length + 1 + _ = x.data.size + 1 + _
   simp
  rw [e, List.length_cons, Nat.succ_mul]
  omega
theorem lnsC_short {M : Nat} {names : List ByteArray} {F C : List (List Trm)} {P : List Int} {n : Int} (hF : ∀ p ∈ F, (printP p names).1.size <= M) (hC : ∀ p ∈ C, (printP p names).1.size <= M) (hP : ∀ x ∈ P, x <= 64) (hl : P.length = F.length) (hn : n <= 64) (k : Nat) (hk : k <= C.length) :
  shortP (M + 100) (lnsC names F C P n k) := by
 intro s hs
 unfold lnsC lnsF at hs
 simp only [List.cons_append, List.mem_cons, List.mem_append, List.mem_map, List.mem_range] at hs
 rcases hs with rfl | ⟨i, hi, rfl⟩ | ⟨i, hi, rfl⟩
 ·
  unfold ln0
  have := digs_1m n (by omega)
  rw [ByteArray.size_append, ofL_size]
  show 6 + _ <= _
  omega
 ·
  obtain ⟨p, hp⟩ := get_of_lt (xs := F) (k := i) hi
  obtain ⟨x, hx⟩ := get_of_lt (xs := P) (k := i) (by omega)
  have h1 := hF p (List.mem_of_getElem? hp)
  have h2 := digs_1m x (by have := hP x (List.mem_of_getElem? hx); omega)
  unfold lnF
  rw [List.getD_eq_getElem?_getD, List.getD_eq_getElem?_getD, hp, hx, Option.getD_some, Option.getD_some, ByteArray.size_append, ByteArray.size_append, ByteArray.size_append, ofL_size]
  show 7 + _ + 1 + _ <= _
  omega
 ·
  obtain ⟨p, hp⟩ := get_of_lt (xs := C) (k := i) (by omega)
  have h1 := hC p (List.mem_of_getElem? hp)
  unfold lnC
  rw [List.getD_eq_getElem?_getD, hp, Option.getD_some, ByteArray.size_append]
  show 9 + _ <= _
  omega
structure CrQ where
 F : List (List Tm)
 P : List Int
 n : Int
 C : List (List Tm)
def noQ : CrQ := ⟨[], [], 0, []⟩
def wPower : List UInt8 := [112, 111, 119, 101, 114]
def wFactor : List UInt8 := [102, 97, 99, 116, 111, 114]
def wCof : List UInt8 := [99, 111, 102, 97, 99, 116, 111, 114]
def wEnd : List UInt8 := [101, 110, 100]
def firstQ (t : List UInt8) : Option CrQ := match cutL 32 t with
 | some (w, r) => if w = wPower then (numC 1 r).map fun n => ⟨[], [], n, []⟩ else none
 | none => none
def lineQ (names : List ByteArray) (c : CrQ) (t : List UInt8) : Option CrQ × Int := match cutL 32 t with
 | none => (none, 9)
 | some (w, r) =>
  if w = wCof then match polC names r with
   | (some p, _) => (some { c with C := c.C ++ [p] }, 0)
   | (none, e) => (none, e)
  else if w = wFactor then match cutL 32 r with
   | none => (none, 9)
   | some (d, x) => match numC 0 d with
    | none => (none, 9)
    | some k => if c.C = [] then match polC names x with
      | (some p, _) => if p = [] then (none, 3) else (some { c with F := c.F ++ [p], P := c.P ++ [(k : Int)] }, 0)
      | (none, e) => (none, e)
     else (none, 9)
  else (none, 9)
def restQ (names : List ByteArray) : Nat -> Nat -> CrQ -> List UInt8 -> CrQ × Nat × Int
 | 0, _, _, _ => (noQ, 0, 0)
 | f + 1, n, c, s => match cutL 10 s with
  | none => (noQ, n, 10)
  | some (t, r) => if t = wEnd then (if r = [] then (c, 0, 0) else match cutL 10 r with
    | none => (noQ, n + 1, 10)
    | some _ => (noQ, n + 1, 9))
   else match lineQ names c t with
    | (some c', _) => restQ names f (n + 1) c' r
    | (none, e) => (noQ, n, e)
def readQ (names : List ByteArray) (s : List UInt8) : CrQ × Nat × Int := match cutL 10 s with
 | none => (noQ, 1, 10)
 | some (t, r) => match firstQ t with
  | none => (noQ, 1, 9)
  | some c => restQ names (r.length + 1) 2 c r
def oneL (l : List UInt8) : Prop := ∀ c ∈ l, c ≠ 10
def lnFQ (x : Int) (t : List UInt8) : List UInt8 := wFactor ++ 32 :: (textN x.toNat ++ 32 :: t)
def lnCQ (t : List UInt8) : List UInt8 := wCof ++ 32 :: t
theorem noSp_text (n : Nat) : ∀ c ∈ textN n, c ≠ 32 /\ c ≠ 10 := fun c hc => by
 have h : digU c = true := by
  unfold textN at hc
  split at hc
  · simp at hc; subst hc; decide
  · exact digs_all n c hc
 constructor <;> (intro e; subst e; revert h; decide)
theorem lineQ_cof {names : List ByteArray} {c : CrQ} {t : List UInt8} {p : List Tm} (h : polC names t = (some p, 0)) : lineQ names c (lnCQ t) = (some { c with C := c.C ++ [p] }, 0) := by
 unfold lineQ lnCQ
 rw [cutL_at 32 wCof t (by decide)]
 dsimp only
 rw [if_pos rfl, h]
theorem lineQ_fac {names : List ByteArray} {c : CrQ} {t : List UInt8} {p : List Tm} {x : Int} (hx : 0 <= x /\ x <= 64) (hc : c.C = []) (hp : p ≠ []) (h : polC names t = (some p, 0)) : lineQ names c (lnFQ x t) = (some { c with F := c.F ++ [p], P := c.P ++ [x] }, 0) := by
 unfold lineQ lnFQ
 rw [cutL_at 32 wFactor _ (by decide)]
 dsimp only
 rw [if_neg (by decide), if_pos rfl, cutL_at 32 (textN x.toNat) t fun d hd => (noSp_text _ d hd).1]
 dsimp only
 rw [numC_text (Nat.zero_le _) (by omega)]
 dsimp only
 rw [if_pos hc, h]
 dsimp only
 rw [if_neg hp, Int.toNat_of_nonneg hx.1]
theorem wEnd_other {w t : List UInt8} (hw : w ≠ wEnd.take w.length) : w ++ t ≠ wEnd := fun e => hw (by rw [<- e, List.take_left])
structure Fr (Y : Nat -> Prop) (w w' : World) : Prop where
 os : w'.os = w.os
 tape : w'.tape = w.tape
 output : w'.output = w.output
 size : w.heap.size <= w'.heap.size
 block : ∀ k, k < w.heap.size -> ¬ Y k -> w'.heap[k]? = w.heap[k]?
section
variable {Y Z : Nat -> Prop} {w w' w'' : World}
theorem Fr.refl (Y : Nat -> Prop) (w : World) : Fr Y w w := ⟨rfl, rfl, rfl, nlr _, fun _ _ _ => rfl⟩
theorem Fr.trans (h : Fr Y w w') (k : Fr Y w' w'') : Fr Y w w'' := ⟨k.os.trans h.os, k.tape.trans h.tape, k.output.trans h.output, Nat.le_trans h.size k.size, fun n h1 h2 => (k.block n (ltl h1 h.size) h2).trans (h.block n h1 h2)⟩
theorem Fr.then_ (h : Fr Y w w') (k : Fr Z w' w'') (e : ∀ b, Z b -> Y b \/ w.heap.size <= b) : Fr Y w w'' := ⟨k.os.trans h.os, k.tape.trans h.tape, k.output.trans h.output, Nat.le_trans h.size k.size, fun n h1 h2 => (k.block n (ltl h1 h.size) (fun hz => (e n hz).elim h2 (fun h => by omega))).trans (h.block n h1 h2)⟩
theorem Fr.mono (h : Fr Y w w') (e : ∀ b, Y b -> Z b) : Fr Z w w' := ⟨h.os, h.tape, h.output, h.size, fun k h1 h2 => h.block k h1 fun hy => h2 (e _ hy)⟩
theorem Fr.below (h : Below w.heap.size w w') : Fr Y w w' := ⟨h.os, h.tape, h.output, h.size, fun k hk _ => h.block k hk⟩
theorem Fr.call (h : Fr Y w w') (k : Below w'.heap.size w' w'') : Fr Y w w'' := h.trans (Fr.below k)
theorem Fr.alloc (h : Fr Y w w') (o : Obj) : Fr Y w (w'.alloc o) := h.call (brf.alloc (nlr _) _)
theorem Fr.setc (h : Fr Y w w') {g i : Nat} {u : Value} (hg : Y g \/ w.heap.size <= g) : Fr Y w (w'.setCell ⟨g, i, none⟩ u) := ⟨h.os, h.tape, h.output, by have := h.size; simpa [World.setCell] using this, fun k h1 h2 =>
 (Below.heap_setCell _ _ _ _ (fun e => by simp at e; subst e; exact hg.elim h2 (fun h => by omega))).trans (h.block k h1 h2)⟩
theorem Fr.grown (h : Fr Y w w') {a : Option Addr} {n c : Nat} (hg : w'.grownBy w'' (Value.ownBlock (.slice a n c))) (ha : ∀ g, a = some g -> Y g.block \/ w.heap.size <= g.block) : Fr Y w w'' := ⟨hg.os.trans h.os, hg.tape.trans h.tape, hg.output.trans h.output, Nat.le_trans h.size hg.size, fun k h1 h2 =>
 (hg.block k (ltl h1 h.size) (fun e => by
  cases a with
  | none => simp [Value.ownBlock] at e
  | some g => simp [Value.ownBlock] at e; subst e; exact (ha g rfl).elim h2 (fun h => by omega))).trans (h.block k h1 h2)⟩
theorem Fr.agr (h : Fr Y w w') : Agr Y w w' := fun p v hp hc => by
 have := h.block p.block (World.block_lt_of_cell? w p hc) hp
 rw [<- hc]
 unfold World.cell?
 rw [this]
theorem Blk.fr {g : Nat} {t : TypeId} {cs : Array Value} (h : Blk w g t cs) (k : Fr Y w w') (hg : ¬ Y g) : Blk w' g t cs := (k.block g h.lt hg).trans h
theorem Below.fr {B : Nat} {W0 : World} (h : Below B W0 w) (k : Fr Y w w') (hY : ∀ b, Y b -> B <= b) (hB : B <= w.heap.size) : Below B W0 w' :=
 ⟨k.os.trans h.os, k.tape.trans h.tape, k.output.trans h.output, Nat.le_trans h.size k.size, fun n hn => (k.block n (by omega) (fun hy => by have := hY n hy; omega)).trans (h.block n hn)⟩
end
end Go.Proofs.YtkjnkpkagcboeaaGreatDoor
namespace Go.Proofs.YtkjnkpkagcboeaaGreatDoor
open Go.RowKit Go.Maps Go.WideMaps
def whoL (l : List ByteArray) (s : ByteArray) : Option Nat := l.findIdx? fun x => decide (x = s)
theorem whoL_lt {l : List ByteArray} {s : ByteArray} {v : Nat} (h : whoL l s = some v) : v < l.length := by
 unfold whoL at h
 exact (List.findIdx?_eq_some_iff_getElem.1 h).1
theorem whoL_snoc {l : List ByteArray} {x : ByteArray} (hx : whoL l x = none) (s : ByteArray) : whoL (l ++ [x]) s = if s = x then some l.length else whoL l s := by
 unfold whoL at hx ⊢
 rw [List.findIdx?_append]
 by_cases h : s = x
 ·
  subst h
  rw [hx, if_pos rfl]
  simp [List.findIdx?_cons]
 ·
  rw [if_neg h]
  have h2 : ¬ x = s := fun e => h e.symm
  simp [List.findIdx?_cons, h2]
theorem zeroI (w : World) : (zeroValue 3).run Tryz.prog w = .ok (.int .i64 0) w := by kernel_rfl
def OwnV (w : World) (b n : Nat) (l : List ByteArray) : Prop :=
 ∃ D : DataW Unit, w.ownsMap Tryz.prog 9 (plainElem Tryz.prog 3) b n D /\ ∀ s : ByteArray, D.atKey (.string s.data.toList) (.lit (.int .i64 0)) = .lit (.int .i64 ((whoL l s).getD 0 : Nat)) /\ Maps.has D (.string s.data.toList) = (whoL l s).isSome
section
variable {w w' : World} {b n : Nat} {l : List ByteArray}
theorem OwnV.made (w : World) : OwnV (w.alloc (.map #[] 0)) w.heap.size 0 [] := ⟨.map [], World.ownsMap_made _ _ _ _, fun _ => ⟨rfl, rfl⟩⟩
theorem OwnV.kept {row : Option Nat} (h : OwnV w b n l) (hg : w.grownBy w' row) (hne : some b ≠ row) : OwnV w' b n l := by obtain ⟨D, h1, h2⟩ := h; exact ⟨D, h1.kept hg hne, h2⟩
theorem OwnV.alloc (h : OwnV w b n l) (o : Obj) : OwnV (w.alloc o) b n l := by obtain ⟨D, h1, h2⟩ := h; exact ⟨D, h1.alloc o, h2⟩
theorem OwnV.fr {g : Nat} (h : OwnV w b n l) (k : Fr (fun x => x = g) w w') (hg : b ≠ g) : OwnV w' b n l :=
 h.kept (row := some g) ⟨k.os, k.tape, k.output, k.size, fun i hi hne => k.block i hi fun e => hne (by rw [e])⟩ (fun e => hg (by injection e))
theorem plainI {v : Int} (h : (Lit.int .i64 v).wf = true) : plainElem (H := Unit) Tryz.prog 3 (.int .i64 v) = some (.lit (.int .i64 v), []) := plainElem_int Tryz.underlying3 h
theorem OwnV.look (h : OwnV w b n l) {s : ByteArray} (hs : s.size <= maxLen) : (Instr.lookup 71 (.map (some b)) (.string s) true).run Tryz.prog w = .ok (.tuple #[.int .i64 ((whoL l s).getD 0 : Nat), .bool (whoL l s).isSome]) w := by
 obtain ⟨D, h1, h2⟩ := h
 obtain ⟨v, ps, hr, hv⟩ := h1.look_ok keyedS Tryz.underlying71 (zeroI w) (plainI (v := 0) (by decide)) (keyOf_string_mk Tryz.underlying9 hs)
 rw [(h2 s).1] at hv
 obtain ⟨c, rfl, hc, _⟩ := plainElem_int_inv Tryz.underlying3 hv
 simp only [Prod.mk.injEq, DataW.lit.injEq, Lit.int.injEq] at hc
 rw [hr, (h2 s).2, <- hc.1.2]
end
section
variable {w : World} {b n : Nat} {l : List ByteArray} {ops : Array Oper} {rest : List Oper} {o : Oper} {a : Act} {Q : Exit -> Act -> World -> Prop}
theorem mapI_put (hg : o.guard = none) (m x v : Operand) (hop : o.op = Op.mapUpdate 71 m x v) (hm : a.eval m = .map (some b)) (hown : OwnV w b n l) (hn : n < 16777216)
  (s : ByteArray) (hs : s.size <= maxLen) (hx : a.eval x = .string s) (hw : whoL l s = none) (hl : l.length <= 16777216) (hv : a.eval v = .int .i64 l.length)
  (hK : ∀ w', OwnV w' b (n + 1) (l ++ [s]) -> w.grownBy w' (some b) -> wpList Tryz.prog ops Q rest (a.put o.dst undef) w') : wpList Tryz.prog ops Q (o :: rest) a w := by
 obtain ⟨D, h1, h2⟩ := hown
 refine wpList_mapUpdate_own w hg m x v 71 hop 9 3 keyedS Tryz.underlying71 (plainElem Tryz.prog 3) b n D hm h1 (by unfold maxLen; omega) _ _ (.string s.data.toList) hx hv
  (keyOf_string_mk Tryz.underlying9 hs) (.lit (.int .i64 l.length)) [] (plainI (wf_of (by unfold InInt; omega))) fun w' r1 r2 => hK w' ⟨_, r1, fun t => ?_⟩ r2
 rw [whoL_snoc hw]
 by_cases he : t = s
 ·
  subst he
  rw [atKey_put_same (h1.isMap) (show WideAt.IsKeyLit (.string _) from trivial), has_put_same (h1.isMap) (show WideAt.IsKeyLit (.string _) from trivial), if_pos rfl]
  exact ⟨rfl, rfl⟩
 ·
  rw [atKey_put_other (strLit_ne he), has_put_other (strLit_ne he), (h2 t).1, (h2 t).2, if_neg he]
  exact ⟨rfl, rfl⟩
end
end Go.Proofs.YtkjnkpkagcboeaaGreatDoor
namespace Go.Proofs.YtkjnkpkagcboeaaGreatDoor
open Go.RowKit
structure Cuts {α : Type} (N : Nat) (G G' : List UInt8 -> Got α) : Prop where
 sub : ∀ l x r, l.length < N -> G l = .ok x r -> r.length <= l.length
 far : ∀ l k, l.length < N -> G l = .bad k 9 -> k <= l.length
 ok : ∀ u v x r, (u ++ v).length < N -> v ≠ [] -> G (u ++ v) = .ok x r -> v.length <= r.length -> ∃ r', r = r' ++ v /\ G' u = .ok x r'
 form : ∀ u v k, (u ++ v).length < N -> v ≠ [] -> G (u ++ v) = .bad k 9 -> v.length < k -> G' u = .bad (k - v.length) 9
 edge : ∀ u v, (u ++ v).length < N -> v ≠ [] -> G (u ++ v) = .bad v.length 9 -> G' u = .bad 0 10
theorem lost_cuts {α : Type} : ∀ (u v : List UInt8), v ≠ [] -> (∀ k, (lost (u ++ v) : Got α) = .bad k 9 -> v.length < k -> (lost u : Got α) = .bad (k - v.length) 9) /\ ((lost (u ++ v) : Got α) = .bad v.length 9 -> (lost u : Got α) = .bad 0 10) := fun u v hv => by
 have hl : 0 < v.length := List.length_pos_iff.2 hv
 unfold lost
 rw [List.length_append, if_neg (by omega)]
 constructor
 ·
  intro k h hk
  injection h with h _
  rw [if_neg (by omega)]
  congr 1
  omega
 ·
  intro h
  injection h with h _
  rw [if_pos (by omega)]
theorem lost_far {α : Type} {l : List UInt8} {k : Nat} {e : Int} (h : (lost l : Got α) = .bad k e) : k <= l.length := by
 unfold lost at h
 split at h <;> injection h with h _ <;> omega
theorem lost_ok {α : Type} {l : List UInt8} {x : α} {r : List UInt8} (h : (lost l : Got α) = .ok x r) : False := by
 unfold lost at h
 split at h <;> cases h
theorem Cuts.bnd {α β : Type} {N : Nat} {G G' : List UInt8 -> Got α} {f f' : List UInt8 -> α -> List UInt8 -> Got β} (h : Cuts N G G') (k : ∀ a b x, Cuts N (f a x) (f' b x)) : Cuts N (fun l => (G l).bnd (f l)) (fun l => (G' l).bnd (f' l)) where
 sub l x r hN e := by
  cases hg : G l with
  | ok y s =>
   rw [hg] at e
   have h1 := h.sub l y s hN hg
   exact Nat.le_trans ((k l l y).sub s x r (by omega) e) h1
  | bad k e' => rw [hg] at e; cases e
 far l n hN hb := by
  cases hg : G l with
  | ok y s =>
   rw [hg] at hb
   have h1 := h.sub l y s hN hg
   exact Nat.le_trans ((k l l y).far s n (by omega) hb) h1
  | bad k e' =>
   rw [hg] at hb
   have : k = n /\ e' = 9 := by injection hb with a b; exact ⟨a, b⟩
   obtain ⟨rfl, rfl⟩ := this
   exact h.far l k hN hg
 ok u v x r hN hv e hr := by
  cases hg : G (u ++ v) with
  | ok y s =>
   rw [hg] at e
   have e2 : f (u ++ v) y s = .ok x r := e
   have h0 := h.sub _ y s hN hg
   have h1 := (k (u ++ v) u y).sub s x r (by omega) e2
   obtain ⟨s', rfl, h2⟩ := h.ok u v y s hN hv hg (by omega)
   obtain ⟨r', h3, h4⟩ := (k (u ++ v) u y).ok s' v x r (by omega) hv e2 hr
   refine ⟨r', h3, ?_⟩
   show (G' u).bnd (f' u) = _
   rw [h2]
   exact h4
  | bad k e' => rw [hg] at e; cases e
 form u v n hN hv hb hn := by
  cases hg : G (u ++ v) with
  | ok y s =>
   rw [hg] at hb
   have e2 : f (u ++ v) y s = .bad n 9 := hb
   have h0 := h.sub _ y s hN hg
   have h1 := (k (u ++ v) u y).far s n (by omega) e2
   obtain ⟨s', rfl, h2⟩ := h.ok u v y s hN hv hg (by omega)
   show (G' u).bnd (f' u) = _
   rw [h2]
   exact (k (u ++ v) u y).form s' v n (by omega) hv e2 hn
  | bad m e' =>
   rw [hg] at hb
   have h1 : m = n /\ e' = 9 := by injection hb with a b; exact ⟨a, b⟩
   obtain ⟨rfl, rfl⟩ := h1
   show (G' u).bnd (f' u) = _
   rw [h.form u v m hN hv hg hn]
   rfl
 edge u v hN hv hb := by
  cases hg : G (u ++ v) with
  | ok y s =>
   rw [hg] at hb
   have e2 : f (u ++ v) y s = .bad v.length 9 := hb
   have h0 := h.sub _ y s hN hg
   have h1 := (k (u ++ v) u y).far s _ (by omega) e2
   obtain ⟨s', rfl, h2⟩ := h.ok u v y s hN hv hg h1
   show (G' u).bnd (f' u) = _
   rw [h2]
   exact (k (u ++ v) u y).edge s' v (by omega) hv e2
  | bad m e' =>
   rw [hg] at hb
   have h1 : m = v.length /\ e' = 9 := by injection hb with a b; exact ⟨a, b⟩
   obtain ⟨rfl, rfl⟩ := h1
   show (G' u).bnd (f' u) = _
   rw [h.edge u v hN hv hg]
   rfl
theorem Cuts.pure {α : Type} (N : Nat) (x : α) : Cuts N (fun l => .ok x l) (fun l => .ok x l) :=
 ⟨fun l y r _ e => by injection e with _ e; rw [e]; exact nlr _, fun _ _ _ h => (by cases h), fun u v y r _ _ e _ => (by injection e with a b; subst a b; exact ⟨u, rfl, rfl⟩), fun _ _ _ _ _ h => (by cases h), fun _ _ _ _ h => (by cases h)⟩
theorem Cuts.err {α : Type} (N : Nat) (n n' : List UInt8 -> Nat) (e e' : Int) (he : e ≠ 9) : Cuts (α := α) N (fun l => .bad (n l) e) (fun l => .bad (n' l) e') :=
 ⟨fun _ _ _ _ h => (by cases h), fun _ _ _ h => (by injection h with _ h; exact absurd h he), fun _ _ _ _ _ _ h => (by cases h), fun _ _ _ _ _ h => (by injection h with _ h; exact absurd h he), fun _ _ _ _ h => (by injection h with _ h; exact absurd h he)⟩
theorem Cuts.pick {α : Type} {N : Nat} {p : List UInt8 -> Prop} [DecidablePred p] {A A' B B' : List UInt8 -> Got α} (hp : ∀ c u v, p (c :: (u ++ v)) ↔ p (c :: u)) (h0 : ¬ p []) (hs : ∀ l x r, l.length < N -> p l -> A l = .ok x r -> r.length < l.length) (hf : ∀ l k, l.length < N -> p l -> A l = .bad k 9 -> k < l.length)
  (hao : ∀ u v x r, (u ++ v).length < N -> v ≠ [] -> p u -> A (u ++ v) = .ok x r -> v.length <= r.length -> ∃ r', r = r' ++ v /\ A' u = .ok x r')
  (haf : ∀ u v k, (u ++ v).length < N -> v ≠ [] -> p u -> A (u ++ v) = .bad k 9 -> v.length < k -> A' u = .bad (k - v.length) 9)
  (hae : ∀ u v, (u ++ v).length < N -> v ≠ [] -> p u -> A (u ++ v) = .bad v.length 9 -> A' u = .bad 0 10)
  (hb : Cuts N B B') : Cuts N (fun l => if p l then A l else B l) (fun l => if p l then A' l else B' l) where
 sub l x r hN e := by
  split at e
  · next hc => exact Nat.le_of_lt (hs l x r hN hc e)
  · exact hb.sub l x r hN e
 far l k hN h := by
  split at h
  · next hc => exact Nat.le_of_lt (hf l k hN hc h)
  · exact hb.far l k hN h
 ok u v x r hN hv e hr := by
  cases u with
  | nil =>
   rw [List.nil_append] at e hN
   rw [if_neg h0]
   split at e
   · next hc => have := hs v x r hN hc e; omega
   · exact hb.ok [] v x r hN hv e hr
  | cons d u =>
   rw [List.cons_append] at e
   split at e
   · next hc => rw [if_pos ((hp d u v).1 hc)]; exact hao (d :: u) v x r hN hv ((hp d u v).1 hc) e hr
   · next hc => rw [if_neg (fun c => hc ((hp d u v).2 c))]; exact hb.ok (d :: u) v x r hN hv e hr
 form u v k hN hv h hk := by
  cases u with
  | nil =>
   rw [List.nil_append] at h hN
   rw [if_neg h0]
   split at h
   · next hc => have := hf v k hN hc h; omega
   · exact hb.form [] v k hN hv h hk
  | cons d u =>
   rw [List.cons_append] at h
   split at h
   · next hc => rw [if_pos ((hp d u v).1 hc)]; exact haf (d :: u) v k hN hv ((hp d u v).1 hc) h hk
   · next hc => rw [if_neg (fun c => hc ((hp d u v).2 c))]; exact hb.form (d :: u) v k hN hv h hk
 edge u v hN hv h := by
  cases u with
  | nil =>
   rw [List.nil_append] at h hN
   rw [if_neg h0]
   split at h
   · next hc => have := hf v _ hN hc h; omega
   · exact hb.edge [] v hN hv h
  | cons d u =>
   rw [List.cons_append] at h
   split at h
   · next hc => rw [if_pos ((hp d u v).1 hc)]; exact hae (d :: u) v hN hv ((hp d u v).1 hc) h
   · next hc => rw [if_neg (fun c => hc ((hp d u v).2 c))]; exact hb.edge (d :: u) v hN hv h
theorem head_len {c : UInt8} {l : List UInt8} (h : l[0]? = some c) : 0 < l.length := by
 cases l with
 | nil => cases h
 | cons d l => simp
theorem Cuts.look {α : Type} {N : Nat} (c : UInt8) {A A' B B' : List UInt8 -> Got α} (ha : Cuts (N - 1) A A') (hb : Cuts N B B') : Cuts N (fun l => if l[0]? = some c then A (l.drop 1) else B l) (fun l => if l[0]? = some c then A' (l.drop 1) else B' l) := by
 refine Cuts.pick (p := fun l => l[0]? = some c) (fun d u v => Iff.rfl) (by simp) (fun l x r hN hc e => ?_) (fun l k hN hc e => ?_) (fun u v x r hN hv hc e hr => ?_) (fun u v k hN hv hc e hk => ?_) (fun u v hN hv hc e => ?_) hb
 ·
  have h1 := head_len hc
  have := ha.sub _ x r (by rw [List.length_drop]; omega) e
  rw [List.length_drop] at this; omega
 ·
  have h1 := head_len hc
  have := ha.far _ k (by rw [List.length_drop]; omega) e
  rw [List.length_drop] at this; omega
 ·
  have h1 := head_len hc
  rw [List.drop_append_of_le_length h1] at e
  exact ha.ok _ v x r (by rw [List.length_append, List.length_drop]; rw [List.length_append] at hN; omega) hv e hr
 ·
  have h1 := head_len hc
  rw [List.drop_append_of_le_length h1] at e
  exact ha.form _ v k (by rw [List.length_append, List.length_drop]; rw [List.length_append] at hN; omega) hv e hk
 ·
  have h1 := head_len hc
  rw [List.drop_append_of_le_length h1] at e
  exact ha.edge _ v (by rw [List.length_append, List.length_drop]; rw [List.length_append] at hN; omega) hv e
theorem Cuts.same {α : Type} {N : Nat} {G G' H H' : List UInt8 -> Got α} (h : Cuts N G G') (e : ∀ l, G l = H l) (e' : ∀ l, G' l = H' l) : Cuts N H H' := by
 rwa [<- (funext e : G = H), <- (funext e' : G' = H')]
theorem Cuts.lost {α : Type} (N : Nat) : Cuts (α := α) N Go.Proofs.YtkjnkpkagcboeaaGreatDoor.lost Go.Proofs.YtkjnkpkagcboeaaGreatDoor.lost :=
 ⟨fun _ _ _ _ e => (lost_ok e).elim, fun _ _ _ h => lost_far h, fun _ _ _ _ _ _ e _ => (lost_ok e).elim, fun u v k _ hv h hk => (lost_cuts u v hv).1 k h hk, fun u v _ hv h => (lost_cuts u v hv).2 h⟩
theorem Cuts.ite {α : Type} {N : Nat} (p : Prop) [Decidable p] {A A' B B' : List UInt8 -> Got α} (ha : Cuts N A A') (hb : Cuts N B B') : Cuts N (fun l => if p then A l else B l) (fun l => if p then A' l else B' l) := by
 by_cases h : p
 · simpa only [if_pos h] using ha
 · simpa only [if_neg h] using hb
theorem takeWhile_cut (p : UInt8 -> Bool) : ∀ (u v : List UInt8), ((u ++ v).takeWhile p).length = (u.takeWhile p).length \/ u.takeWhile p = u /\ u.length < ((u ++ v).takeWhile p).length
 | [], v => by
  rcases Nat.eq_zero_or_pos (v.takeWhile p).length with h | h
  · exact .inl (by simpa using h)
  · exact .inr ⟨rfl, by simpa using h⟩
 | c :: u, v => by
  rw [List.cons_append, List.takeWhile_cons, List.takeWhile_cons]
  cases hc : p c
  · exact .inl rfl
  ·
   simp only [if_true, List.length_cons]
   rcases takeWhile_cut p u v with h | ⟨h1, h2⟩
   · exact .inl (by omega)
   · exact .inr ⟨by rw [h1], by omega⟩
structure Word (m : List UInt8 -> Nat) : Prop where
 le : ∀ l, m l <= l.length
 nil : m [] = 0
 cut : ∀ u v, m (u ++ v) = m u \/ u.length < m (u ++ v)
 zero : ∀ c u v, m (c :: (u ++ v)) = 0 -> m (c :: u) = 0
theorem numL_word : Word numL where
 le l := by
  cases l with
  | nil => exact nlr _
  | cons c r =>
   rw [numL, List.length_cons]
   have := (List.takeWhile_sublist digU (l := r)).length_le
   split
   · split <;> omega
   · omega
 nil := rfl
 cut u v := by
  cases u with
  | nil =>
   rcases Nat.eq_zero_or_pos (numL v) with h | h
   · exact .inl (by rw [List.nil_append, h]; rfl)
   · exact .inr (by simpa using h)
  | cons c u =>
   rw [List.cons_append, numL, numL, List.length_cons]
   split
   ·
    split
    · exact .inl rfl
    ·
     rcases takeWhile_cut digU u v with h | ⟨h1, h2⟩
     · exact .inl (by omega)
     · exact .inr (by omega)
   · exact .inl rfl
 zero c u v h := by
  rw [numL] at h ⊢
  split
  ·
   next hc =>
   rw [if_pos hc] at h
   split at h <;> omega
  · rfl
theorem namL_word : Word namL where
 le l := by
  cases l with
  | nil => exact nlr _
  | cons c r =>
   rw [namL, List.length_cons]
   have := (List.takeWhile_sublist wordV (l := r)).length_le
   split <;> omega
 nil := rfl
 cut u v := by
  cases u with
  | nil =>
   rcases Nat.eq_zero_or_pos (namL v) with h | h
   · exact .inl (by rw [List.nil_append, h]; rfl)
   · exact .inr (by simpa using h)
  | cons c u =>
   rw [List.cons_append, namL, namL, List.length_cons]
   split
   ·
    rcases takeWhile_cut wordV u v with h | ⟨h1, h2⟩
    · exact .inl (by omega)
    · exact .inr (by omega)
   · exact .inl rfl
 zero c u v h := by
  rw [namL] at h ⊢
  split
  · next hc => rw [if_pos hc] at h; omega
  · rfl
theorem Cuts.word {α : Type} {m : List UInt8 -> Nat} (N : Nat) (hm : Word m) (g : List UInt8 -> Option α) (e : Int) (he : e ≠ 9) : Cuts N (fun l => if m l = 0 then Go.Proofs.YtkjnkpkagcboeaaGreatDoor.lost l else match g (l.take (m l)) with
  | none => .bad l.length e
  | some v => .ok v (l.drop (m l))) (fun l => if m l = 0 then Go.Proofs.YtkjnkpkagcboeaaGreatDoor.lost l else match g (l.take (m l)) with
  | none => .bad l.length e
  | some v => .ok v (l.drop (m l))) where
 sub l x r _ h := by
  split at h
  · exact (lost_ok h).elim
  ·
   split at h
   · cases h
   · injection h with _ h; rw [<- h, List.length_drop]; omega
 far l k _ h := by
  split at h
  · exact lost_far h
  ·
   split at h
   · injection h with h _; omega
   · cases h
 ok u v x r _ hv h hr := by
  split at h
  · exact (lost_ok h).elim
  ·
   next h0 =>
   split at h
   · cases h
   ·
    next y hy =>
    injection h with h1 h2
    subst h1
    rw [<- h2, List.length_drop, List.length_append] at hr
    have hl : 0 < v.length := List.length_pos_iff.2 hv
    rcases hm.cut u v with hc | hc
    ·
     rw [hc] at h0 hy h2
     have hle := hm.le u
     rw [if_neg h0]
     rw [List.take_append_of_le_length hle] at hy
     rw [List.drop_append_of_le_length hle] at h2
     refine ⟨u.drop (m u), h2.symm, ?_⟩
     rw [hy]
    · omega
 form u v k _ hv h hk := by
  split at h
  ·
   next h0 =>
   have h1 := (lost_cuts (α := α) u v hv).1 k h hk
   cases u with
   | nil =>
    have := lost_far h
    rw [List.nil_append] at this
    omega
   | cons c u =>
    rw [if_pos (hm.zero c u v h0)]
    exact h1
  ·
   split at h
   · injection h with _ h; exact absurd h he
   · cases h
 edge u v _ hv h := by
  split at h
  ·
   next h0 =>
   have h1 := (lost_cuts (α := α) u v hv).2 h
   cases u with
   | nil => rw [if_pos hm.nil]; exact h1
   | cons c u =>
    rw [if_pos (hm.zero c u v h0)]
    exact h1
  ·
   split at h
   · injection h with _ h; exact absurd h he
   · cases h
theorem Cuts.sameN {α : Type} {N : Nat} {G G' H H' : List UInt8 -> Got α} (h : Cuts N G G') (e : ∀ l, l.length < N -> G l = H l) (e' : ∀ l, l.length < N -> G' l = H' l) : Cuts N H H' where
 sub l x r hN k := h.sub l x r hN (by rw [e l hN]; exact k)
 far l k hN c := h.far l k hN (by rw [e l hN]; exact c)
 ok u v x r hN hv k hr := by rw [<- e' u (by rw [List.length_append] at hN; omega)]; exact h.ok u v x r hN hv (by rw [e _ hN]; exact k) hr
 form u v k hN hv c hk := by rw [<- e' u (by rw [List.length_append] at hN; omega)]; exact h.form u v k hN hv (by rw [e _ hN]; exact c) hk
 edge u v hN hv c := by rw [<- e' u (by rw [List.length_append] at hN; omega)]; exact h.edge u v hN hv (by rw [e _ hN]; exact c)
def oneG {α : Type} (m : List UInt8 -> Nat) (g : List UInt8 -> Option α) (e : Int) (l : List UInt8) : Got α := if m l = 0 then lost l else match g (l.take (m l)) with
  | none => .bad l.length e
  | some v => .ok v (l.drop (m l))
theorem oneG_cuts {α : Type} (N : Nat) {m : List UInt8 -> Nat} (hm : Word m) (g : List UInt8 -> Option α) (e : Int) (he : e ≠ 9) : Cuts N (oneG m g e) (oneG m g e) := Cuts.word N hm g e he
theorem numG_word (l : List UInt8) : oneG numL (fun s => if 1000 < s.length then none else some s) 4 l = numG l := by
 unfold numG oneG
 have hl : (l.take (numL l)).length = numL l := by rw [List.length_take]; have := numL_word.le l; omega
 split
 · rfl
 ·
  by_cases h : 1000 < numL l
  · simp only [hl, if_pos h]
  · simp only [hl, if_neg h]
theorem numG_cuts (N : Nat) : Cuts N numG numG := (oneG_cuts N numL_word _ 4 (by decide)).same numG_word numG_word
theorem namG_word (names : List ByteArray) (l : List UInt8) : oneG namL (whoV names) 6 l = namG names l := by
 unfold namG oneG
 split
 · rfl
 · cases whoV names (l.take (namL l)) <;> rfl
theorem namG_cuts (N : Nat) (names : List ByteArray) : Cuts N (namG names) (namG names) := (oneG_cuts N namL_word (whoV names) 6 (by decide)).same (namG_word names) (namG_word names)
theorem powG_cuts (N : Nat) (names : List ByteArray) : Cuts N (powG names) (powG names) := by
 refine Cuts.bnd (namG_cuts N names) fun a b v => ?_
 refine Cuts.look 94 (A := fun l => (numG l).bnd fun d r2 => if 1048576 < decL d then .bad l.length 4 else .ok (v, (decL d : Int)) r2) (A' := fun l => (numG l).bnd fun d r2 => if 1048576 < decL d then .bad l.length 4 else .ok (v, (decL d : Int)) r2) ?_ (Cuts.pure N _)
 refine Cuts.bnd (numG_cuts _) fun a b d => ?_
 exact Cuts.ite _ (Cuts.err _ (fun _ => a.length) (fun _ => b.length) 4 4 (by decide)) (Cuts.pure _ _)
theorem proG_cuts (names : List ByteArray) (F F' : Nat) : ∀ (N n n' : Nat) (m : List Int), N <= n -> N <= n' -> Cuts N (proG names F n m) (proG names F' n' m)
 | 0, _, _, _, _, _ => ⟨fun _ _ _ h => (by omega), fun _ _ h => (by omega), fun _ _ _ _ h => (by omega), fun _ _ _ h => (by omega), fun _ _ h => (by omega)⟩
 | N + 1, n + 1, n' + 1, m, h, h' => by
  have ih := fun m => proG_cuts names F F' N n n' m (by omega) (by omega)
  have := Cuts.bnd (f := fun _ p r => if 1048576 < expAt m p.1 + p.2 then .bad F 4 else if r[0]? = some 42 then proG names F n (putM m p) (r.drop 1) else .ok (putM m p) r)
   (f' := fun _ p r => if 1048576 < expAt m p.1 + p.2 then .bad F' 4 else if r[0]? = some 42 then proG names F' n' (putM m p) (r.drop 1) else .ok (putM m p) r) (powG_cuts (N + 1) names) fun a b p => Cuts.ite _ (Cuts.err _ (fun _ => F) (fun _ => F') 4 4 (by decide)) (Cuts.look 42 (ih _) (Cuts.pure _ _))
  exact this.same (fun l => by rw [proG]) (fun l => by rw [proG])
 | N + 1, 0, _, _, h, _ => by omega
 | N + 1, _, 0, _, _, h => by omega
theorem proG_fuel (names : List ByteArray) (F : Nat) : ∀ (n n' : Nat) (m : List Int) (l : List UInt8), l.length < n -> l.length < n' -> proG names F n m l = proG names F n' m l
 | n + 1, n' + 1, m, l, h, h' => by
  rw [proG, proG]
  cases hp : powG names l with
  | bad k e => rfl
  | ok p r =>
   have hr := (powG_cuts (l.length + 1) names).sub l p r (by omega) hp
   show (if _ then _ else _) = (if _ then _ else _)
   split
   · rfl
   ·
    split
    ·
     next hc =>
     have := head_len hc
     exact proG_fuel names F n n' _ _ (by rw [List.length_drop]; omega) (by rw [List.length_drop]; omega)
    · rfl
 | 0, _, _, _, h, _ => by omega
 | _, 0, _, _, _, h => by omega
theorem monG_cuts (N : Nat) (names : List ByteArray) (F F' : Nat) (q : Rat) : Cuts N (monG names F q) (monG names F' q) := by
 refine Cuts.bnd (G := fun l => proG names F (l.length + 1) zerM l) (G' := fun l => proG names F' (l.length + 1) zerM l) (f := fun _ m r => .ok (q, cutM m) r) (f' := fun _ m r => .ok (q, cutM m) r) ?_ fun a b m => Cuts.pure _ _
 exact (proG_cuts names F F' N N N zerM (nlr _) (nlr _)).sameN (fun l h => proG_fuel names F _ _ _ _ h (by omega)) (fun l h => proG_fuel names F' _ _ _ _ h (by omega))
theorem cofG_cuts (N : Nat) : Cuts N cofG cofG := by
 refine Cuts.bnd (numG_cuts N) fun a b p => ?_
 refine Cuts.look 47 (A := fun l => (numG l).bnd fun q r2 => if decL q = 0 then .bad l.length 3 else .ok (qv false (decL p) (decL q)) r2) (A' := fun l => (numG l).bnd fun q r2 => if decL q = 0 then .bad l.length 3 else .ok (qv false (decL p) (decL q)) r2) ?_ (Cuts.pure N _)
 refine Cuts.bnd (numG_cuts _) fun a b d => ?_
 exact Cuts.ite _ (Cuts.err _ (fun _ => a.length) (fun _ => b.length) 3 3 (by decide)) (Cuts.pure _ _)
theorem numG_eats {l : List UInt8} (h : numL l ≠ 0) : (∀ d r, numG l = .ok d r -> r.length < l.length) /\ ∀ k, numG l ≠ .bad k 9 := by
 have hle := numL_word.le l
 unfold numG
 rw [if_neg h]
 constructor
 ·
  intro d r e
  split at e
  · cases e
  · injection e with _ e; rw [<- e, List.length_drop]; omega
 ·
  intro k e
  split at e
  · injection e with _ e; exact absurd e (by decide)
  · cases e
theorem cofG_eats {l : List UInt8} (h : numL l ≠ 0) : (∀ q r, cofG l = .ok q r -> r.length < l.length) /\ ∀ k, cofG l = .bad k 9 -> k < l.length := by
 obtain ⟨h1, h2⟩ := numG_eats h
 have hk : ∀ p : List UInt8, Cuts (l.length + 1) (fun r => if r[0]? = some 47 then (numG (r.drop 1)).bnd fun q r2 => if decL q = 0 then (.bad (r.drop 1).length 3 : Got Rat) else .ok (qv false (decL p) (decL q)) r2 else .ok (qv false (decL p) 1) r) (fun r => if r[0]? = some 47 then (numG (r.drop 1)).bnd fun q r2 => if decL q = 0 then (.bad (r.drop 1).length 3 : Got Rat) else .ok (qv false (decL p) (decL q)) r2 else .ok (qv false (decL p) 1) r) := fun p => by
  refine Cuts.look 47 (A := fun l => (numG l).bnd fun q r2 => if decL q = 0 then .bad l.length 3 else .ok (qv false (decL p) (decL q)) r2) (A' := fun l => (numG l).bnd fun q r2 => if decL q = 0 then .bad l.length 3 else .ok (qv false (decL p) (decL q)) r2) ?_ (Cuts.pure _ _)
  refine Cuts.bnd (numG_cuts _) fun a b d => ?_
  exact Cuts.ite _ (Cuts.err _ (fun _ => a.length) (fun _ => b.length) 3 3 (by decide)) (Cuts.pure _ _)
 unfold cofG
 cases hn : numG l with
 | bad k e =>
  refine ⟨fun q r c => (by cases c), fun k' c => ?_⟩
  injection c with c1 c2
  subst c2
  exact (h2 k hn).elim
 | ok p s =>
  have hs := h1 p s hn
  exact ⟨fun q r c => Nat.lt_of_le_of_lt ((hk p).sub s q r (by omega) c) hs, fun k c => Nat.lt_of_le_of_lt ((hk p).far s k (by omega) c) hs⟩
theorem terG_cuts (N : Nat) (names : List ByteArray) : Cuts N (terG names) (terG names) := by
 have hk : ∀ (a b : List UInt8) (q : Rat), Cuts N (fun r => if r[0]? = some 42 then monG names a.length q (r.drop 1) else .ok (q, []) r) (fun r => if r[0]? = some 42 then monG names b.length q (r.drop 1) else .ok (q, []) r) := fun a b q => Cuts.look 42 (monG_cuts _ names _ _ q) (Cuts.pure _ _)
 have hA := Cuts.bnd (f := fun l q r => if r[0]? = some 42 then monG names l.length q (r.drop 1) else .ok (q, []) r) (f' := fun l q r => if r[0]? = some 42 then monG names l.length q (r.drop 1) else .ok (q, []) r) (cofG_cuts N) hk
 have hB : Cuts N (fun l => monG names l.length 1 l) (fun l => monG names l.length 1 l) := by
  have := Cuts.bnd (G := fun l => .ok () l) (G' := fun l => .ok () l) (f := fun l _ r => monG names l.length 1 r) (f' := fun l _ r => monG names l.length 1 r) (Cuts.pure N ()) fun a b _ => monG_cuts N names a.length b.length 1
  exact this
 have := Cuts.pick (p := fun l => numL l ≠ 0) (A := fun l => (cofG l).bnd fun q r => if r[0]? = some 42 then monG names l.length q (r.drop 1) else .ok (q, []) r) (A' := fun l => (cofG l).bnd fun q r => if r[0]? = some 42 then monG names l.length q (r.drop 1) else .ok (q, []) r)
  (fun c u v => ?_) (fun h => h rfl) (fun l x r hN hp e => ?_) (fun l k hN hp e => ?_) (fun u v x r hN hv _ e hr => hA.ok u v x r hN hv e hr) (fun u v k hN hv _ e hk => hA.form u v k hN hv e hk) (fun u v hN hv _ e => hA.edge u v hN hv e) hB
 ·
  refine this.same (fun l => ?_) (fun l => ?_) <;>
  ·
   unfold terG
   by_cases h : numL l = 0
   · rw [if_pos h, if_neg (fun c => c h)]
   · rw [if_neg h, if_pos h]
 ·
  have e : numL (c :: (u ++ v)) = 0 ↔ numL (c :: u) = 0 := by
   refine ⟨numL_word.zero c u v, fun h => ?_⟩
   rw [numL] at h ⊢
   split
   ·
    next hc =>
    rw [if_pos hc] at h
    split at h <;> omega
   · rfl
  exact not_congr e
 ·
  obtain ⟨h1, h2⟩ := cofG_eats hp
  cases hc : cofG l with
  | bad k e' => rw [hc] at e; cases e
  | ok q s =>
   rw [hc] at e
   have h3 := h1 q s hc
   exact Nat.lt_of_le_of_lt ((hk l l q).sub s x r (by omega) e) h3
 ·
  obtain ⟨h1, h2⟩ := cofG_eats hp
  cases hc : cofG l with
  | bad k' e' =>
   rw [hc] at e
   have : k' = k /\ e' = 9 := by injection e with a b; exact ⟨a, b⟩
   obtain ⟨rfl, rfl⟩ := this
   exact h2 k' hc
  | ok q s =>
   rw [hc] at e
   have h3 := h1 q s hc
   exact Nat.lt_of_le_of_lt ((hk l l q).far s k (by omega) e) h3
theorem eatG_cuts (N : Nat) (c : UInt8) : Cuts N (eatG c) (eatG c) := Cuts.look c (A := fun l => .ok () l) (A' := fun l => .ok () l) (Cuts.pure _ _) (Cuts.lost N)
theorem eatG_less {c : UInt8} {l r : List UInt8} {x : Unit} (h : eatG c l = .ok x r) : r.length < l.length := by
 unfold eatG at h
 split at h
 ·
  next hc =>
  have := head_len hc
  injection h with _ h; rw [<- h, List.length_drop]; omega
 · exact (lost_ok h).elim
theorem sepG_less {l r : List UInt8} {ng : Bool} (h : sepG l = .ok ng r) : r.length < l.length := by
 unfold sepG at h
 cases h1 : eatG 32 l with
 | bad k e => rw [h1] at h; cases h
 | ok x s =>
  rw [h1] at h
  have h2 := eatG_less h1
  have hk : Cuts (l.length + 1) (fun r => if r[0]? = some 45 then (eatG 32 (r.drop 1)).bnd fun _ r' => (.ok true r' : Got Bool) else (eatG 43 r).bnd fun _ r1 => (eatG 32 r1).bnd fun _ r2 => .ok false r2) (fun r => if r[0]? = some 45 then (eatG 32 (r.drop 1)).bnd fun _ r' => (.ok true r' : Got Bool) else (eatG 43 r).bnd fun _ r1 => (eatG 32 r1).bnd fun _ r2 => .ok false r2) := by
   refine Cuts.look 45 (A := fun l => (eatG 32 l).bnd fun _ r' => .ok true r') (A' := fun l => (eatG 32 l).bnd fun _ r' => .ok true r') (Cuts.bnd (eatG_cuts _ 32) fun a b _ => Cuts.pure _ _) ?_
   exact Cuts.bnd (eatG_cuts _ 43) fun a b _ => Cuts.bnd (eatG_cuts _ 32) fun a b _ => Cuts.pure _ _
  exact Nat.lt_of_le_of_lt (hk.sub s ng r (by omega) h) h2
def Fine {α : Type} (N : Nat) (g : Got α) : Prop := ∀ k e, g = .bad k e -> k <= N /\ (e = 9 -> 0 < k) /\ (e = 10 -> k = 0) /\ e ≠ 0
theorem Fine.mono {α : Type} {N M : Nat} {g : Got α} (h : Fine N g) (hN : N <= M) : Fine M g := fun k e hk => ⟨Nat.le_trans (h k e hk).1 hN, (h k e hk).2⟩
theorem Fine.okk {α : Type} (N : Nat) (x : α) (r : List UInt8) : Fine N (.ok x r) := fun _ _ h => by cases h
theorem Fine.err {α : Type} {N k : Nat} {e : Int} (hk : k <= N) (h9 : e ≠ 9) (h10 : e ≠ 10) (h0 : e ≠ 0 := by decide) : Fine N (.bad k e : Got α) := fun k' e' h => by
 injection h with a b
 subst a b
 exact ⟨hk, fun c => absurd c h9, fun c => absurd c h10, h0⟩
theorem Fine.lost {α : Type} (l : List UInt8) : Fine l.length (Go.Proofs.YtkjnkpkagcboeaaGreatDoor.lost l : Got α) := fun k e h => by
 unfold Go.Proofs.YtkjnkpkagcboeaaGreatDoor.lost at h
 split at h
 ·
  injection h with a b
  subst a b
  exact ⟨Nat.zero_le _, fun c => absurd c (by decide), fun _ => rfl, by decide⟩
 ·
  injection h with a b
  subst a b
  exact ⟨nlr _, fun _ => by omega, fun c => absurd c (by decide), by decide⟩
theorem Fine.bnd {α β : Type} {N : Nat} {g : Got α} {f : α -> List UInt8 -> Got β} (hg : Fine N g) (hf : ∀ x r, g = .ok x r -> Fine N (f x r)) : Fine N (g.bnd f) := fun k e h => by
 cases hc : g with
 | ok x r => rw [hc] at h; exact hf x r hc k e h
 | bad k' e' =>
  rw [hc] at h
  have : k' = k /\ e' = e := by injection h with a b; exact ⟨a, b⟩
  obtain ⟨rfl, rfl⟩ := this
  exact hg k' e' hc
theorem Fine.ite {α : Type} {N : Nat} {p : Prop} [Decidable p] {a b : Got α} (ha : p -> Fine N a) (hb : ¬ p -> Fine N b) : Fine N (if p then a else b) := by
 split
 · next h => exact ha h
 · next h => exact hb h
theorem drop_le1 (r : List UInt8) : (r.drop 1).length <= r.length := by rw [List.length_drop]; omega
theorem numG_fine (l : List UInt8) : Fine l.length (numG l) := by
 unfold numG
 exact Fine.ite (fun _ => Fine.lost l) fun _ => Fine.ite (fun _ => Fine.err (nlr _) (by decide) (by decide)) fun _ => Fine.okk _ _ _
theorem namG_fine (names : List ByteArray) (l : List UInt8) : Fine l.length (namG names l) := by
 unfold namG
 refine Fine.ite (fun _ => Fine.lost l) fun _ => ?_
 split
 · exact Fine.err (nlr _) (by decide) (by decide)
 · exact Fine.okk _ _ _
theorem powG_fine (names : List ByteArray) (l : List UInt8) : Fine l.length (powG names l) := by
 unfold powG
 refine Fine.bnd (namG_fine names l) fun v r hr => ?_
 have h1 := (namG_cuts (l.length + 1) names).sub l v r (by omega) hr
 have h2 := drop_le1 r
 refine Fine.ite (fun _ => ?_) fun _ => Fine.okk _ _ _
 refine Fine.bnd ((numG_fine _).mono (by omega)) fun d s _ => ?_
 exact Fine.ite (fun _ => Fine.err (by omega) (by decide) (by decide)) fun _ => Fine.okk _ _ _
theorem proG_fine (names : List ByteArray) (F M : Nat) (hF : F <= M) : ∀ (n : Nat) (m : List Int) (l : List UInt8), l.length <= M -> Fine M (proG names F n m l)
 | 0, m, l, h => by rw [proG]; exact Fine.err (Nat.zero_le _) (by decide) (by decide)
 | n + 1, m, l, h => by
  rw [proG]
  refine Fine.bnd ((powG_fine names l).mono h) fun p r hr => ?_
  have h1 := (powG_cuts (l.length + 1) names).sub l p r (by omega) hr
  have h2 := drop_le1 r
  refine Fine.ite (fun _ => Fine.err hF (by decide) (by decide)) fun _ => Fine.ite (fun _ => proG_fine names F M hF n _ _ (by omega)) fun _ => Fine.okk _ _ _
theorem monG_fine (names : List ByteArray) (F M : Nat) (hF : F <= M) (q : Rat) (l : List UInt8) (h : l.length <= M) : Fine M (monG names F q l) := by
 unfold monG
 exact Fine.bnd (proG_fine names F M hF _ _ l h) fun _ _ _ => Fine.okk _ _ _
theorem cofG_fine (l : List UInt8) : Fine l.length (cofG l) := by
 unfold cofG
 refine Fine.bnd (numG_fine l) fun p r hr => ?_
 have h1 := (numG_cuts (l.length + 1)).sub l p r (by omega) hr
 have h2 := drop_le1 r
 refine Fine.ite (fun _ => ?_) fun _ => Fine.okk _ _ _
 refine Fine.bnd ((numG_fine _).mono (by omega)) fun d s _ => ?_
 exact Fine.ite (fun _ => Fine.err (by omega) (by decide) (by decide)) fun _ => Fine.okk _ _ _
theorem terG_fine (names : List ByteArray) (l : List UInt8) : Fine l.length (terG names l) := by
 unfold terG
 refine Fine.ite (fun _ => monG_fine names _ _ (nlr _) _ _ (nlr _)) fun _ => ?_
 refine Fine.bnd (cofG_fine l) fun q r hr => ?_
 have h1 := (cofG_cuts (l.length + 1)).sub l q r (by omega) hr
 have h2 := drop_le1 r
 exact Fine.ite (fun _ => monG_fine names _ _ (nlr _) _ _ (by omega)) fun _ => Fine.okk _ _ _
theorem eatG_fine (c : UInt8) (l : List UInt8) : Fine l.length (eatG c l) := by
 unfold eatG
 exact Fine.ite (fun _ => Fine.okk _ _ _) fun _ => Fine.lost l
theorem sepG_fine (l : List UInt8) : Fine l.length (sepG l) := by
 unfold sepG
 refine Fine.bnd (eatG_fine 32 l) fun _ r hr => ?_
 have h1 := eatG_less hr
 have h2 := drop_le1 r
 refine Fine.ite (fun _ => Fine.bnd ((eatG_fine 32 _).mono (by omega)) fun _ _ _ => Fine.okk _ _ _) fun _ => ?_
 refine Fine.bnd ((eatG_fine 43 _).mono (by omega)) fun _ r1 hr1 => ?_
 have h3 := eatG_less hr1
 exact Fine.bnd ((eatG_fine 32 _).mono (by omega)) fun _ _ _ => Fine.okk _ _ _
theorem sumG_fine (names : List ByteArray) (M : Nat) : ∀ (f : Nat) (neg : Bool) (acc : List (Rat × List Int)) (l : List UInt8), l.length <= M -> Fine M (sumG names f neg acc l)
 | 0, _, _, l, _ => by rw [sumG]; exact Fine.err (Nat.zero_le _) (by decide) (by decide)
 | f + 1, neg, acc, l, h => by
  rw [sumG]
  refine Fine.ite (fun _ => Fine.err h (by decide) (by decide)) fun _ => ?_
  refine Fine.bnd ((terG_fine names l).mono h) fun t r hr => ?_
  have h1 := (terG_cuts (l.length + 1) names).sub l t r (by omega) hr
  refine Fine.ite (fun _ => Fine.okk _ _ _) fun _ => ?_
  refine Fine.bnd ((sepG_fine r).mono (by omega)) fun ng s hs => ?_
  have h2 := sepG_less hs
  exact sumG_fine names M f ng _ s (by omega)
theorem reaG_fine (names : List ByteArray) (l : List UInt8) : Fine l.length (reaG names l) := by
 unfold reaG
 exact Fine.ite (fun _ => sumG_fine names _ _ _ _ _ (drop_le1 l)) fun _ => sumG_fine names _ _ _ _ _ (nlr _)
end Go.Proofs.YtkjnkpkagcboeaaGreatDoor
