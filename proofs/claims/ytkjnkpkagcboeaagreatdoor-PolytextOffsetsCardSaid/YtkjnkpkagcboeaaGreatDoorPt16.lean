/- Where an error of a sum's text stands: the law. Plain. -/
import Derived.Test.YtkjnkpkagcboeaaGreatDoorPt15
set_option linter.all false
set_option maxRecDepth 100000
set_option maxHeartbeats 4000000
namespace Go.Proofs.YtkjnkpkagcboeaaGreatDoor
open Go.RowKit
theorem ofL_list (l : List UInt8) : (ofL l).data.toList = l := by unfold ofL; simp
theorem absQ_nonneg (q : Rat) : 0 <= absQ q := by
 unfold absQ
 split
 · next h => have := Rat.neg_le_neg (Rat.le_of_lt h); simpa using this
 · next h => exact Rat.not_lt.1 h
theorem textQ_pos {q : Rat} (h : 0 <= q) : textQ q = if q.den = 1 then textN q.num.natAbs else textN q.num.natAbs ++ 47 :: textN q.den := by
 have hn : decide (q.num < 0) = false := by
  have := Rat.num_nonneg.2 h
  simp; omega
 unfold textQ textF trip textZ
 dsimp only
 rw [hn]
 simp
theorem qv_back {q : Rat} (h : 0 <= q) : qv false q.num.natAbs q.den = q := by
 have hn : decide (q.num < 0) = false := by
  have := Rat.num_nonneg.2 h
  simp; omega
 have := qv_parts q
 rwa [hn] at this
def shortQ (q : Rat) : Prop := (textN q.num.natAbs).length <= 1000 /\ (textN q.den).length <= 1000
theorem numL_textQ {q : Rat} (h : 0 <= q) (z : List UInt8) (hz : frontN digU z) : numL (textQ q ++ z) ≠ 0 := by
 have h1 := textN_pos q.num.natAbs
 rw [textQ_pos h]
 split
 · rw [numL_text _ _ hz]; omega
 · rw [List.append_assoc, numL_text _ _ (fun c hc => by simp at hc; subst hc; decide)]; omega
theorem cofG_text {q : Rat} (h : 0 <= q) (hs : shortQ q) {z : List UInt8} (hz : endZ z) (h47 : z[0]? ≠ some 47) : cofG (textQ q ++ z) = .ok q z := by
 have hb := qv_back h
 rw [textQ_pos h]
 unfold cofG
 split
 ·
  next hd =>
  rw [numG_text _ _ hz.dig hs.1]
  unfold Got.bnd
  dsimp only
  rw [if_neg h47, decL_text, <- hd, hb]
 ·
  next hd =>
  rw [List.append_assoc, numG_text _ _ (fun c hc => by simp at hc; subst hc; decide) hs.1]
  unfold Got.bnd
  dsimp only
  rw [if_pos (by simp), List.cons_append, List.drop_one, List.tail_cons, numG_text _ _ hz.dig hs.2]
  dsimp only
  rw [decL_text, decL_text, if_neg q.den_nz, hb]
theorem facP_list (names : List ByteArray) (v : Nat) (x : Int) : (facP names v x).map (·.data.toList) = if 0 < x then [facL names (v, x)] else [] := by
 unfold facP facL
 by_cases h1 : x = 1
 · rw [if_pos h1, if_pos (by omega), if_pos h1]; rfl
 ·
  rw [if_neg h1]
  by_cases h2 : 1 < x
  ·
   rw [if_pos h2, if_pos (by omega), if_neg h1]
   simp [ByteArray.data_append, ofL_list]
  · rw [if_neg h2, if_neg (by omega)]; rfl
theorem facs_list (names : List ByteArray) (f : Nat -> Int) : ∀ vs : List Nat, (vs.flatMap fun v => facP names v (f v)).map (·.data.toList) = (prsF f vs).map (facL names)
 | [] => rfl
 | v :: vs => by
  rw [List.flatMap_cons, List.map_append, facP_list, facs_list names f vs, prsF_cons]
  split <;> simp
theorem joinTail_flat (r : List (List UInt8)) : Lib.joinTail [42] r = r.flatMap fun x => 42 :: x := by
 unfold Lib.joinTail
 induction r with
 | nil => rfl
 | cons x r ih => rw [List.map_cons, List.flatten_cons, List.flatMap_cons, ih]; rfl
def termL (names : List ByteArray) (q : Rat) (m : List Int) : List UInt8 := if m.length = 0 \/ absQ q ≠ 1 then textQ (absQ q) ++ (prsM m).flatMap fun p => 42 :: facL names p else facsL names (prsM m)
theorem termB_list (names : List ByteArray) (q : Rat) (m : List Int) : (termB q m names).data.toList = termL names q m := by
 have e : (termB q m names).data.toList = Lib.join ((partsT q m names m.length).map (·.data.toList)) [42] := ofL_list _
 rw [e]
 unfold partsT cofP termL
 rw [List.map_append, facs_list]
 change Lib.join (_ ++ (prsM m).map (facL names)) [42] = _
 split
 · rw [List.map_cons, List.map_nil, List.singleton_append, Lib.join_cons, joinTail_flat, ofL_list, List.flatMap_map]
 ·
  rw [List.map_nil, List.nil_append]
  generalize prsM m = l
  cases l with
  | nil => rfl
  | cons p r => rw [List.map_cons, Lib.join_cons, joinTail_flat, List.flatMap_map]; rfl
theorem facL_front {names : List ByteArray} (hn : errNm names = 0) {p : Nat × Int} (h : goodP names p) (z : List UInt8) : ∃ c r, facL names p ++ z = c :: r /\ letU c = true := by
 have hm := (errNm_zero hn).1 _ (List.mem_of_getElem? (nameA_at h.1))
 have hm' : nameV (nameA names p.1).data.toList = true := hm
 have : ∃ c r, (nameA names p.1).data.toList = c :: r /\ letU c = true := by
  cases hx : (nameA names p.1).data.toList with
  | nil => rw [hx] at hm'; cases hm'
  | cons c r =>
   rw [hx] at hm'
   have h' : (letV c.toNat && r.all wordV) = true := hm'
   exact ⟨c, r, rfl, (Bool.and_eq_true _ _ ▸ h').1⟩
 obtain ⟨c, r, e, hc⟩ := this
 unfold facL
 split
 · exact ⟨c, r ++ z, by rw [e]; rfl, hc⟩
 · exact ⟨c, _, by rw [e]; rfl, hc⟩
theorem numL_letter {c : UInt8} (r : List UInt8) (h : letU c = true) : numL (c :: r) = 0 := by
 rw [numL, if_neg]
 unfold letU letV at h
 unfold digU digV
 rw [decide_eq_true_eq] at h
 simp
 omega
theorem prsM_good {names : List ByteArray} {m : List Int} (hm : monoB m = true) (hl : m.length <= names.length) : ∀ p ∈ prsM m, goodP names p := fun p hp => by
 have g := monoB_mem hm
 obtain ⟨h1, h2, h3⟩ := prsF_mem hp
 have h1' := List.mem_range.1 h1
 exact ⟨by omega, by omega, by omega, by rw [h2]; exact (expAt_in g.2 _).2⟩
theorem terG_text {names : List ByteArray} (hn : errNm names = 0) {q : Rat} {m : List Int} (hm : monoB m = true) (hl : m.length <= names.length) (hs : shortQ (absQ q)) {z : List UInt8} (hz : endZ z) (h42 : z[0]? ≠ some 42) (h47 : z[0]? ≠ some 47) :
  terG names (termL names q m ++ z) = .ok (absQ q, m) z := by
 have hp := absQ_nonneg q
 have hgood := prsM_good hm hl
 unfold termL terG
 by_cases h0 : m.length = 0
 ·
  have e0 : m = [] := List.length_eq_zero_iff.1 h0
  subst e0
  have hor : (([] : List Int).length = 0 \/ absQ q ≠ 1) := .inl rfl
  rw [if_pos hor, show prsM [] = [] from rfl, List.flatMap_nil, List.append_nil, if_neg (numL_textQ hp _ hz.dig), cofG_text hp hs hz h47]
  unfold Got.bnd
  dsimp only
  rw [if_neg h42]
 ·
  have hne := prsM_ne hm h0
  have hb := fun F q' => monG_text hn F q' hm hl h0 hz h42
  split
  ·
   have ht : ((prsM m).flatMap fun p => 42 :: facL names p) = 42 :: facsL names (prsM m) := by
    generalize prsM m = l at hne ⊢
    cases l with
    | nil => exact absurd rfl hne
    | cons p r => rw [List.flatMap_cons]; rfl
   have hz2 : endZ (42 :: (facsL names (prsM m) ++ z)) := fun c hc => by simp at hc; subst hc; simp
   rw [ht, List.append_assoc, List.cons_append, if_neg (numL_textQ hp _ hz2.dig), cofG_text hp hs hz2 (by simp)]
   unfold Got.bnd
   dsimp only
   rw [if_pos (by simp), List.drop_one, List.tail_cons, hb]
  ·
   next hc =>
   have hq : absQ q = 1 := Decidable.byContradiction fun e => hc (.inr e)
   have hf : numL (facsL names (prsM m) ++ z) = 0 := by
    generalize prsM m = l at hne hgood ⊢
    cases l with
    | nil => exact absurd rfl hne
    | cons p r =>
     unfold facsL
     rw [List.append_assoc]
     obtain ⟨c, r', e, hc⟩ := facL_front hn (hgood p (by simp)) ((r.flatMap fun q => 42 :: facL names q) ++ z)
     rw [e]
     exact numL_letter r' hc
   rw [if_pos hf, hb, hq]
def trmQ (t : Trm) : Rat × List Int := (t.coef.q, t.mono)
theorem sgnT_back (q : Rat) (m : List Int) : sgnT (decide (q < 0)) (absQ q, m) = (q, m) := by
 unfold sgnT absQ
 by_cases h : q < 0
 · simp [h, Rat.neg_neg]
 · simp [h]
def sepL (q : Rat) : List UInt8 := if q < 0 then [32, 45, 32] else [32, 43, 32]
def tailL (names : List ByteArray) (l : List Trm) : List UInt8 := l.flatMap fun t => sepL t.coef.q ++ termL names t.coef.q t.mono
def goodT (names : List ByteArray) (t : Trm) : Prop := monoB t.mono = true /\ t.mono.length <= names.length /\ shortQ (absQ t.coef.q)
theorem tailL_end (names : List ByteArray) (l : List Trm) : endZ (tailL names l) /\ (tailL names l)[0]? ≠ some 42 /\ (tailL names l)[0]? ≠ some 47 := by
 cases l with
 | nil => exact ⟨fun c hc => by simp [tailL] at hc, by simp [tailL], by simp [tailL]⟩
 | cons t r =>
  have : (tailL names (t :: r))[0]? = some 32 := by
   unfold tailL sepL
   rw [List.flatMap_cons]
   split <;> rfl
  rw [endZ, this]
  exact ⟨fun c hc => by simp at hc; exact .inl hc.symm, by decide, by decide⟩
theorem sepG_text (q : Rat) (z : List UInt8) : sepG (sepL q ++ z) = .ok (decide (q < 0)) z := by
 unfold sepL
 by_cases h : q < 0
 ·
  rw [if_pos h, decide_eq_true h]
  simp [sepG, eatG, Got.bnd]
 ·
  rw [if_neg h, decide_eq_false h]
  simp [sepG, eatG, Got.bnd]
theorem sumG_text {names : List ByteArray} (hn : errNm names = 0) : ∀ (r : List Trm) (t : Trm) (f : Nat) (acc : List (Rat × List Int)), r.length < f -> acc.length + r.length < 4000 -> (∀ x ∈ t :: r, goodT names x) ->
  sumG names f (decide (t.coef.q < 0)) acc (termL names t.coef.q t.mono ++ tailL names r) = .ok (acc ++ (t :: r).map trmQ) []
 | [], t, f + 1, acc, _, ha, hg => by
  obtain ⟨h1, h2, h3⟩ := hg t (by simp)
  have he := tailL_end names []
  rw [sumG, if_neg (by simp at ha; omega), terG_text hn h1 h2 h3 he.1 he.2.1 he.2.2]
  unfold Got.bnd
  dsimp only
  rw [if_pos (show (tailL names []).length = 0 from rfl), sgnT_back]
  rfl
 | u :: r, t, f + 1, acc, hf, ha, hg => by
  obtain ⟨h1, h2, h3⟩ := hg t (by simp)
  have he := tailL_end names (u :: r)
  rw [List.length_cons] at hf ha
  rw [sumG, if_neg (by omega), terG_text hn h1 h2 h3 he.1 he.2.1 he.2.2]
  have hl : (tailL names (u :: r)).length ≠ 0 := by
   unfold tailL sepL
   rw [List.flatMap_cons]
   split <;> simp
  have ht : tailL names (u :: r) = sepL u.coef.q ++ (termL names u.coef.q u.mono ++ tailL names r) := by
   unfold tailL; rw [List.flatMap_cons, List.append_assoc]
  unfold Got.bnd
  dsimp only
  rw [if_neg hl, ht, sepG_text, sgnT_back]
  dsimp only
  change sumG names f (decide (u.coef.q < 0)) (acc ++ [trmQ t]) _ = _
  rw [sumG_text hn r u f (acc ++ [trmQ t]) (by omega) (by simp; omega) (fun x hx => hg x (List.mem_cons_of_mem _ hx))]
  simp
 | r, t, 0, acc, hf, _, _ => by omega
def bodyL (names : List ByteArray) : List Trm -> List UInt8
 | [] => []
 | t :: r => (if t.coef.q < 0 then [45] else []) ++ (termL names t.coef.q t.mono ++ tailL names r)
theorem polyTo_list (names : List ByteArray) (t : Trm) (r : List Trm) : ∀ k, k <= r.length -> (polyTo (t :: r) names (k + 1)).data.toList ++ tailL names (r.drop k) = bodyL names (t :: r)
 | 0, _ => by
  rw [polyTo_succ (t := t) rfl]
  unfold bodyL signP polyTo
  rw [if_pos rfl, List.drop_zero]
  simp only [ByteArray.data_append, Array.toList_append, termB_list]
  split <;> simp
 | k + 1, h => by
  have hk : k < r.length := by omega
  have ih := polyTo_list names t r k (by omega)
  rw [List.drop_eq_getElem_cons hk] at ih
  rw [polyTo_succ (t := r[k]) (by rw [List.getElem?_cons_succ, List.getElem?_eq_getElem hk])]
  rw [<- ih]
  unfold signP tailL sepL
  rw [if_neg (by omega)]
  simp only [ByteArray.data_append, Array.toList_append, termB_list, List.flatMap_cons, List.append_assoc]
  split <;> simp
theorem polyTo_all (names : List ByteArray) (l : List Trm) : (polyTo l names l.length).data.toList = bodyL names l := by
 cases l with
 | nil => rfl
 | cons t r =>
  have := polyTo_list names t r r.length (nlr _)
  rw [List.drop_length] at this
  simpa [tailL] using this
theorem termL_front {names : List ByteArray} (hn : errNm names = 0) {t : Trm} (ht : goodT names t) (z : List UInt8) : (termL names t.coef.q t.mono ++ z)[0]? ≠ some 45 := by
 obtain ⟨h1, h2, h3⟩ := ht
 have hgood := prsM_good h1 h2
 unfold termL
 split
 ·
  rw [List.append_assoc, textQ_pos (absQ_nonneg _)]
  have hx : ∀ y, (textN (absQ t.coef.q).num.natAbs ++ y)[0]? ≠ some 45 := fun y e => by
   have h4 := numL_text (absQ t.coef.q).num.natAbs [] (fun c hc => by simp at hc)
   have h5 := textN_pos (absQ t.coef.q).num.natAbs
   rw [List.append_nil] at h4
   cases hc : textN (absQ t.coef.q).num.natAbs with
   | nil => rw [hc] at h5; simp at h5
   | cons c r =>
    rw [hc] at e h4
    have e' : c = 45 := by simpa using e
    subst e'
    have : numL (45 :: r) = 0 := by rw [numL, if_neg (by decide)]
    rw [this] at h4
    simp at h4
  split
  · exact hx _
  · rw [List.append_assoc]; exact hx _
 ·
  next hc =>
  have hne := prsM_ne h1 (fun e => hc (.inl e))
  generalize prsM t.mono = l at hne hgood ⊢
  cases l with
  | nil => exact absurd rfl hne
  | cons p r =>
   unfold facsL
   rw [List.append_assoc]
   obtain ⟨c, r', e, hl⟩ := facL_front hn (hgood p (by simp)) ((r.flatMap fun q => 42 :: facL names q) ++ z)
   rw [e]
   intro e2
   have e3 : c = 45 := by simpa using e2
   subst e3
   revert hl; decide
theorem reaG_text {names : List ByteArray} (hn : errNm names = 0) {l : List Trm} (h0 : l ≠ []) (hl : l.length <= 4000) (hg : ∀ t ∈ l, goodT names t) : reaG names (bodyL names l) = .ok (l.map trmQ) [] := by
 cases l with
 | nil => exact absurd rfl h0
 | cons t r =>
  have hlen : r.length <= (tailL names r).length := by
   unfold tailL
   clear hl hg h0
   induction r with
   | nil => simp
   | cons x r ih => rw [List.flatMap_cons, List.length_append, List.length_append, List.length_cons]; have : (sepL x.coef.q).length = 3 := by { unfold sepL; split <;> rfl }; omega
  rw [List.length_cons] at hl
  rw [bodyL]
  unfold reaG
  by_cases hs : t.coef.q < 0
  ·
   rw [if_pos hs, if_pos (by rfl)]
   have := sumG_text hn r t ([45] ++ (termL names t.coef.q t.mono ++ tailL names r)).length.succ [] (by simp; omega) (by simp; omega) hg
   rw [decide_eq_true hs] at this
   exact this
  ·
   rw [if_neg hs, List.nil_append, if_neg (termL_front hn (hg t (by simp)) _)]
   have := sumG_text hn r t (termL names t.coef.q t.mono ++ tailL names r).length.succ [] (by rw [List.length_append]; omega) (by simp; omega) hg
   rw [decide_eq_false hs] at this
   exact this
theorem reaG_zero (names : List ByteArray) : reaG names [48] = .ok [(0, [])] [] := by
 have h : (digU 48) = true := by decide
 simp [reaG, sumG, terG, cofG, numG, numL, h, Got.bnd, decL, sgnT, qv_zero]
structure Cuts {α : Type} (N : Nat) (G G' : List UInt8 -> Got α) : Prop where
 sub : ∀ l x r, l.length < N -> G l = .ok x r -> r.length <= l.length
 far : ∀ l k, l.length < N -> G l = .bad k 9 -> k <= l.length
 ok : ∀ u v x r, (u ++ v).length < N -> v ≠ [] -> G (u ++ v) = .ok x r -> v.length <= r.length -> ∃ r', r = r' ++ v /\ G' u = .ok x r'
 form : ∀ u v k, (u ++ v).length < N -> v ≠ [] -> G (u ++ v) = .bad k 9 -> v.length < k -> G' u = .bad (k - v.length) 9
 edge : ∀ u v, (u ++ v).length < N -> v ≠ [] -> G (u ++ v) = .bad v.length 9 -> G' u = .bad 0 10
theorem lost_cuts {α : Type} : ∀ (u v : List UInt8), v ≠ [] -> (∀ k, (lost (u ++ v) : Got α) = .bad k 9 -> v.length < k -> (lost u : Got α) = .bad (k - v.length) 9) /\ ((lost (u ++ v) : Got α) = .bad v.length 9 -> (lost u : Got α) = .bad 0 10) := fun u v hv => by
 have hl : 0 < v.length := List.length_pos_iff.2 hv
 unfold lost
 rw [List.length_append, if_neg (by omega)]
 constructor
 ·
  intro k h hk
  injection h with h _
  rw [if_neg (by omega)]
  congr 1
  omega
 ·
  intro h
  injection h with h _
  rw [if_pos (by omega)]
theorem lost_far {α : Type} {l : List UInt8} {k : Nat} {e : Int} (h : (lost l : Got α) = .bad k e) : k <= l.length := by
 unfold lost at h
 split at h <;> injection h with h _ <;> omega
theorem lost_ok {α : Type} {l : List UInt8} {x : α} {r : List UInt8} (h : (lost l : Got α) = .ok x r) : False := by
 unfold lost at h
 split at h <;> cases h
theorem Cuts.bnd {α β : Type} {N : Nat} {G G' : List UInt8 -> Got α} {f f' : List UInt8 -> α -> List UInt8 -> Got β} (h : Cuts N G G') (k : ∀ a b x, Cuts N (f a x) (f' b x)) : Cuts N (fun l => (G l).bnd (f l)) (fun l => (G' l).bnd (f' l)) where
 sub l x r hN e := by
  cases hg : G l with
  | ok y s =>
   rw [hg] at e
   have h1 := h.sub l y s hN hg
   exact Nat.le_trans ((k l l y).sub s x r (by omega) e) h1
  | bad k e' => rw [hg] at e; cases e
 far l n hN hb := by
  cases hg : G l with
  | ok y s =>
   rw [hg] at hb
   have h1 := h.sub l y s hN hg
   exact Nat.le_trans ((k l l y).far s n (by omega) hb) h1
  | bad k e' =>
   rw [hg] at hb
   have : k = n /\ e' = 9 := by injection hb with a b; exact ⟨a, b⟩
   obtain ⟨rfl, rfl⟩ := this
   exact h.far l k hN hg
 ok u v x r hN hv e hr := by
  cases hg : G (u ++ v) with
  | ok y s =>
   rw [hg] at e
   have e2 : f (u ++ v) y s = .ok x r := e
   have h0 := h.sub _ y s hN hg
   have h1 := (k (u ++ v) u y).sub s x r (by omega) e2
   obtain ⟨s', rfl, h2⟩ := h.ok u v y s hN hv hg (by omega)
   obtain ⟨r', h3, h4⟩ := (k (u ++ v) u y).ok s' v x r (by omega) hv e2 hr
   refine ⟨r', h3, ?_⟩
   show (G' u).bnd (f' u) = _
   rw [h2]
   exact h4
  | bad k e' => rw [hg] at e; cases e
 form u v n hN hv hb hn := by
  cases hg : G (u ++ v) with
  | ok y s =>
   rw [hg] at hb
   have e2 : f (u ++ v) y s = .bad n 9 := hb
   have h0 := h.sub _ y s hN hg
   have h1 := (k (u ++ v) u y).far s n (by omega) e2
   obtain ⟨s', rfl, h2⟩ := h.ok u v y s hN hv hg (by omega)
   show (G' u).bnd (f' u) = _
   rw [h2]
   exact (k (u ++ v) u y).form s' v n (by omega) hv e2 hn
  | bad m e' =>
   rw [hg] at hb
   have h1 : m = n /\ e' = 9 := by injection hb with a b; exact ⟨a, b⟩
   obtain ⟨rfl, rfl⟩ := h1
   show (G' u).bnd (f' u) = _
   rw [h.form u v m hN hv hg hn]
   rfl
 edge u v hN hv hb := by
  cases hg : G (u ++ v) with
  | ok y s =>
   rw [hg] at hb
   have e2 : f (u ++ v) y s = .bad v.length 9 := hb
   have h0 := h.sub _ y s hN hg
   have h1 := (k (u ++ v) u y).far s _ (by omega) e2
   obtain ⟨s', rfl, h2⟩ := h.ok u v y s hN hv hg h1
   show (G' u).bnd (f' u) = _
   rw [h2]
   exact (k (u ++ v) u y).edge s' v (by omega) hv e2
  | bad m e' =>
   rw [hg] at hb
   have h1 : m = v.length /\ e' = 9 := by injection hb with a b; exact ⟨a, b⟩
   obtain ⟨rfl, rfl⟩ := h1
   show (G' u).bnd (f' u) = _
   rw [h.edge u v hN hv hg]
   rfl
theorem Cuts.pure {α : Type} (N : Nat) (x : α) : Cuts N (fun l => .ok x l) (fun l => .ok x l) :=
 ⟨fun l y r _ e => by injection e with _ e; rw [e]; exact nlr _, fun _ _ _ h => (by cases h), fun u v y r _ _ e _ => (by injection e with a b; subst a b; exact ⟨u, rfl, rfl⟩), fun _ _ _ _ _ h => (by cases h), fun _ _ _ _ h => (by cases h)⟩
theorem Cuts.err {α : Type} (N : Nat) (n n' : List UInt8 -> Nat) (e e' : Int) (he : e ≠ 9) : Cuts (α := α) N (fun l => .bad (n l) e) (fun l => .bad (n' l) e') :=
 ⟨fun _ _ _ _ h => (by cases h), fun _ _ _ h => (by injection h with _ h; exact absurd h he), fun _ _ _ _ _ _ h => (by cases h), fun _ _ _ _ _ h => (by injection h with _ h; exact absurd h he), fun _ _ _ _ h => (by injection h with _ h; exact absurd h he)⟩
theorem Cuts.pick {α : Type} {N : Nat} {p : List UInt8 -> Prop} [DecidablePred p] {A A' B B' : List UInt8 -> Got α} (hp : ∀ c u v, p (c :: (u ++ v)) ↔ p (c :: u)) (h0 : ¬ p []) (hs : ∀ l x r, l.length < N -> p l -> A l = .ok x r -> r.length < l.length) (hf : ∀ l k, l.length < N -> p l -> A l = .bad k 9 -> k < l.length)
  (hao : ∀ u v x r, (u ++ v).length < N -> v ≠ [] -> p u -> A (u ++ v) = .ok x r -> v.length <= r.length -> ∃ r', r = r' ++ v /\ A' u = .ok x r')
  (haf : ∀ u v k, (u ++ v).length < N -> v ≠ [] -> p u -> A (u ++ v) = .bad k 9 -> v.length < k -> A' u = .bad (k - v.length) 9)
  (hae : ∀ u v, (u ++ v).length < N -> v ≠ [] -> p u -> A (u ++ v) = .bad v.length 9 -> A' u = .bad 0 10)
  (hb : Cuts N B B') : Cuts N (fun l => if p l then A l else B l) (fun l => if p l then A' l else B' l) where
 sub l x r hN e := by
  split at e
  · next hc => exact Nat.le_of_lt (hs l x r hN hc e)
  · exact hb.sub l x r hN e
 far l k hN h := by
  split at h
  · next hc => exact Nat.le_of_lt (hf l k hN hc h)
  · exact hb.far l k hN h
 ok u v x r hN hv e hr := by
  cases u with
  | nil =>
   rw [List.nil_append] at e hN
   rw [if_neg h0]
   split at e
   · next hc => have := hs v x r hN hc e; omega
   · exact hb.ok [] v x r hN hv e hr
  | cons d u =>
   rw [List.cons_append] at e
   split at e
   · next hc => rw [if_pos ((hp d u v).1 hc)]; exact hao (d :: u) v x r hN hv ((hp d u v).1 hc) e hr
   · next hc => rw [if_neg (fun c => hc ((hp d u v).2 c))]; exact hb.ok (d :: u) v x r hN hv e hr
 form u v k hN hv h hk := by
  cases u with
  | nil =>
   rw [List.nil_append] at h hN
   rw [if_neg h0]
   split at h
   · next hc => have := hf v k hN hc h; omega
   · exact hb.form [] v k hN hv h hk
  | cons d u =>
   rw [List.cons_append] at h
   split at h
   · next hc => rw [if_pos ((hp d u v).1 hc)]; exact haf (d :: u) v k hN hv ((hp d u v).1 hc) h hk
   · next hc => rw [if_neg (fun c => hc ((hp d u v).2 c))]; exact hb.form (d :: u) v k hN hv h hk
 edge u v hN hv h := by
  cases u with
  | nil =>
   rw [List.nil_append] at h hN
   rw [if_neg h0]
   split at h
   · next hc => have := hf v _ hN hc h; omega
   · exact hb.edge [] v hN hv h
  | cons d u =>
   rw [List.cons_append] at h
   split at h
   · next hc => rw [if_pos ((hp d u v).1 hc)]; exact hae (d :: u) v hN hv ((hp d u v).1 hc) h
   · next hc => rw [if_neg (fun c => hc ((hp d u v).2 c))]; exact hb.edge (d :: u) v hN hv h
theorem head_len {c : UInt8} {l : List UInt8} (h : l[0]? = some c) : 0 < l.length := by
 cases l with
 | nil => cases h
 | cons d l => simp
theorem Cuts.look {α : Type} {N : Nat} (c : UInt8) {A A' B B' : List UInt8 -> Got α} (ha : Cuts (N - 1) A A') (hb : Cuts N B B') : Cuts N (fun l => if l[0]? = some c then A (l.drop 1) else B l) (fun l => if l[0]? = some c then A' (l.drop 1) else B' l) := by
 refine Cuts.pick (p := fun l => l[0]? = some c) (fun d u v => Iff.rfl) (by simp) (fun l x r hN hc e => ?_) (fun l k hN hc e => ?_) (fun u v x r hN hv hc e hr => ?_) (fun u v k hN hv hc e hk => ?_) (fun u v hN hv hc e => ?_) hb
 ·
  have h1 := head_len hc
  have := ha.sub _ x r (by rw [List.length_drop]; omega) e
  rw [List.length_drop] at this; omega
 ·
  have h1 := head_len hc
  have := ha.far _ k (by rw [List.length_drop]; omega) e
  rw [List.length_drop] at this; omega
 ·
  have h1 := head_len hc
  rw [List.drop_append_of_le_length h1] at e
  exact ha.ok _ v x r (by rw [List.length_append, List.length_drop]; rw [List.length_append] at hN; omega) hv e hr
 ·
  have h1 := head_len hc
  rw [List.drop_append_of_le_length h1] at e
  exact ha.form _ v k (by rw [List.length_append, List.length_drop]; rw [List.length_append] at hN; omega) hv e hk
 ·
  have h1 := head_len hc
  rw [List.drop_append_of_le_length h1] at e
  exact ha.edge _ v (by rw [List.length_append, List.length_drop]; rw [List.length_append] at hN; omega) hv e
theorem Cuts.same {α : Type} {N : Nat} {G G' H H' : List UInt8 -> Got α} (h : Cuts N G G') (e : ∀ l, G l = H l) (e' : ∀ l, G' l = H' l) : Cuts N H H' := by
 rwa [<- (funext e : G = H), <- (funext e' : G' = H')]
theorem Cuts.lost {α : Type} (N : Nat) : Cuts (α := α) N Go.Proofs.YtkjnkpkagcboeaaGreatDoor.lost Go.Proofs.YtkjnkpkagcboeaaGreatDoor.lost :=
 ⟨fun _ _ _ _ e => (lost_ok e).elim, fun _ _ _ h => lost_far h, fun _ _ _ _ _ _ e _ => (lost_ok e).elim, fun u v k _ hv h hk => (lost_cuts u v hv).1 k h hk, fun u v _ hv h => (lost_cuts u v hv).2 h⟩
theorem Cuts.ite {α : Type} {N : Nat} (p : Prop) [Decidable p] {A A' B B' : List UInt8 -> Got α} (ha : Cuts N A A') (hb : Cuts N B B') : Cuts N (fun l => if p then A l else B l) (fun l => if p then A' l else B' l) := by
 by_cases h : p
 · simpa only [if_pos h] using ha
 · simpa only [if_neg h] using hb
theorem takeWhile_cut (p : UInt8 -> Bool) : ∀ (u v : List UInt8), ((u ++ v).takeWhile p).length = (u.takeWhile p).length \/ u.takeWhile p = u /\ u.length < ((u ++ v).takeWhile p).length
 | [], v => by
  rcases Nat.eq_zero_or_pos (v.takeWhile p).length with h | h
  · exact .inl (by simpa using h)
  · exact .inr ⟨rfl, by simpa using h⟩
 | c :: u, v => by
  rw [List.cons_append, List.takeWhile_cons, List.takeWhile_cons]
  cases hc : p c
  · exact .inl rfl
  ·
   simp only [if_true, List.length_cons]
   rcases takeWhile_cut p u v with h | ⟨h1, h2⟩
   · exact .inl (by omega)
   · exact .inr ⟨by rw [h1], by omega⟩
structure Word (m : List UInt8 -> Nat) : Prop where
 le : ∀ l, m l <= l.length
 nil : m [] = 0
 cut : ∀ u v, m (u ++ v) = m u \/ u.length < m (u ++ v)
 zero : ∀ c u v, m (c :: (u ++ v)) = 0 -> m (c :: u) = 0
theorem numL_word : Word numL where
 le l := by
  cases l with
  | nil => exact nlr _
  | cons c r =>
   rw [numL, List.length_cons]
   have := (List.takeWhile_sublist digU (l := r)).length_le
   split
   · split <;> omega
   · omega
 nil := rfl
 cut u v := by
  cases u with
  | nil =>
   rcases Nat.eq_zero_or_pos (numL v) with h | h
   · exact .inl (by rw [List.nil_append, h]; rfl)
   · exact .inr (by simpa using h)
  | cons c u =>
   rw [List.cons_append, numL, numL, List.length_cons]
   split
   ·
    split
    · exact .inl rfl
    ·
     rcases takeWhile_cut digU u v with h | ⟨h1, h2⟩
     · exact .inl (by omega)
     · exact .inr (by omega)
   · exact .inl rfl
 zero c u v h := by
  rw [numL] at h ⊢
  split
  ·
   next hc =>
   rw [if_pos hc] at h
   split at h <;> omega
  · rfl
theorem namL_word : Word namL where
 le l := by
  cases l with
  | nil => exact nlr _
  | cons c r =>
   rw [namL, List.length_cons]
   have := (List.takeWhile_sublist wordV (l := r)).length_le
   split <;> omega
 nil := rfl
 cut u v := by
  cases u with
  | nil =>
   rcases Nat.eq_zero_or_pos (namL v) with h | h
   · exact .inl (by rw [List.nil_append, h]; rfl)
   · exact .inr (by simpa using h)
  | cons c u =>
   rw [List.cons_append, namL, namL, List.length_cons]
   split
   ·
    rcases takeWhile_cut wordV u v with h | ⟨h1, h2⟩
    · exact .inl (by omega)
    · exact .inr (by omega)
   · exact .inl rfl
 zero c u v h := by
  rw [namL] at h ⊢
  split
  · next hc => rw [if_pos hc] at h; omega
  · rfl
theorem Cuts.word {α : Type} {m : List UInt8 -> Nat} (N : Nat) (hm : Word m) (g : List UInt8 -> Option α) (e : Int) (he : e ≠ 9) : Cuts N (fun l => if m l = 0 then Go.Proofs.YtkjnkpkagcboeaaGreatDoor.lost l else match g (l.take (m l)) with
  | none => .bad l.length e
  | some v => .ok v (l.drop (m l))) (fun l => if m l = 0 then Go.Proofs.YtkjnkpkagcboeaaGreatDoor.lost l else match g (l.take (m l)) with
  | none => .bad l.length e
  | some v => .ok v (l.drop (m l))) where
 sub l x r _ h := by
  split at h
  · exact (lost_ok h).elim
  ·
   split at h
   · cases h
   · injection h with _ h; rw [<- h, List.length_drop]; omega
 far l k _ h := by
  split at h
  · exact lost_far h
  ·
   split at h
   · injection h with h _; omega
   · cases h
 ok u v x r _ hv h hr := by
  split at h
  · exact (lost_ok h).elim
  ·
   next h0 =>
   split at h
   · cases h
   ·
    next y hy =>
    injection h with h1 h2
    subst h1
    rw [<- h2, List.length_drop, List.length_append] at hr
    have hl : 0 < v.length := List.length_pos_iff.2 hv
    rcases hm.cut u v with hc | hc
    ·
     rw [hc] at h0 hy h2
     have hle := hm.le u
     rw [if_neg h0]
     rw [List.take_append_of_le_length hle] at hy
     rw [List.drop_append_of_le_length hle] at h2
     refine ⟨u.drop (m u), h2.symm, ?_⟩
     rw [hy]
    · omega
 form u v k _ hv h hk := by
  split at h
  ·
   next h0 =>
   have h1 := (lost_cuts (α := α) u v hv).1 k h hk
   cases u with
   | nil =>
    have := lost_far h
    rw [List.nil_append] at this
    omega
   | cons c u =>
    rw [if_pos (hm.zero c u v h0)]
    exact h1
  ·
   split at h
   · injection h with _ h; exact absurd h he
   · cases h
 edge u v _ hv h := by
  split at h
  ·
   next h0 =>
   have h1 := (lost_cuts (α := α) u v hv).2 h
   cases u with
   | nil => rw [if_pos hm.nil]; exact h1
   | cons c u =>
    rw [if_pos (hm.zero c u v h0)]
    exact h1
  ·
   split at h
   · injection h with _ h; exact absurd h he
   · cases h
theorem Cuts.sameN {α : Type} {N : Nat} {G G' H H' : List UInt8 -> Got α} (h : Cuts N G G') (e : ∀ l, l.length < N -> G l = H l) (e' : ∀ l, l.length < N -> G' l = H' l) : Cuts N H H' where
 sub l x r hN k := h.sub l x r hN (by rw [e l hN]; exact k)
 far l k hN c := h.far l k hN (by rw [e l hN]; exact c)
 ok u v x r hN hv k hr := by rw [<- e' u (by rw [List.length_append] at hN; omega)]; exact h.ok u v x r hN hv (by rw [e _ hN]; exact k) hr
 form u v k hN hv c hk := by rw [<- e' u (by rw [List.length_append] at hN; omega)]; exact h.form u v k hN hv (by rw [e _ hN]; exact c) hk
 edge u v hN hv c := by rw [<- e' u (by rw [List.length_append] at hN; omega)]; exact h.edge u v hN hv (by rw [e _ hN]; exact c)
def oneG {α : Type} (m : List UInt8 -> Nat) (g : List UInt8 -> Option α) (e : Int) (l : List UInt8) : Got α := if m l = 0 then lost l else match g (l.take (m l)) with
  | none => .bad l.length e
  | some v => .ok v (l.drop (m l))
theorem oneG_cuts {α : Type} (N : Nat) {m : List UInt8 -> Nat} (hm : Word m) (g : List UInt8 -> Option α) (e : Int) (he : e ≠ 9) : Cuts N (oneG m g e) (oneG m g e) := Cuts.word N hm g e he
theorem numG_word (l : List UInt8) : oneG numL (fun s => if 1000 < s.length then none else some s) 4 l = numG l := by
 unfold numG oneG
 have hl : (l.take (numL l)).length = numL l := by rw [List.length_take]; have := numL_word.le l; omega
 split
 · rfl
 ·
  by_cases h : 1000 < numL l
  · simp only [hl, if_pos h]
  · simp only [hl, if_neg h]
theorem numG_cuts (N : Nat) : Cuts N numG numG := (oneG_cuts N numL_word _ 4 (by decide)).same numG_word numG_word
theorem namG_word (names : List ByteArray) (l : List UInt8) : oneG namL (whoV names) 6 l = namG names l := by
 unfold namG oneG
 split
 · rfl
 · cases whoV names (l.take (namL l)) <;> rfl
theorem namG_cuts (N : Nat) (names : List ByteArray) : Cuts N (namG names) (namG names) := (oneG_cuts N namL_word (whoV names) 6 (by decide)).same (namG_word names) (namG_word names)
theorem powG_cuts (N : Nat) (names : List ByteArray) : Cuts N (powG names) (powG names) := by
 refine Cuts.bnd (namG_cuts N names) fun a b v => ?_
 refine Cuts.look 94 (A := fun l => (numG l).bnd fun d r2 => if 1048576 < decL d then .bad l.length 4 else .ok (v, (decL d : Int)) r2) (A' := fun l => (numG l).bnd fun d r2 => if 1048576 < decL d then .bad l.length 4 else .ok (v, (decL d : Int)) r2) ?_ (Cuts.pure N _)
 refine Cuts.bnd (numG_cuts _) fun a b d => ?_
 exact Cuts.ite _ (Cuts.err _ (fun _ => a.length) (fun _ => b.length) 4 4 (by decide)) (Cuts.pure _ _)
theorem proG_cuts (names : List ByteArray) (F F' : Nat) : ∀ (N n n' : Nat) (m : List Int), N <= n -> N <= n' -> Cuts N (proG names F n m) (proG names F' n' m)
 | 0, _, _, _, _, _ => ⟨fun _ _ _ h => (by omega), fun _ _ h => (by omega), fun _ _ _ _ h => (by omega), fun _ _ _ h => (by omega), fun _ _ h => (by omega)⟩
 | N + 1, n + 1, n' + 1, m, h, h' => by
  have ih := fun m => proG_cuts names F F' N n n' m (by omega) (by omega)
  have := Cuts.bnd (f := fun _ p r => if 1048576 < expAt m p.1 + p.2 then .bad F 4 else if r[0]? = some 42 then proG names F n (putM m p) (r.drop 1) else .ok (putM m p) r)
   (f' := fun _ p r => if 1048576 < expAt m p.1 + p.2 then .bad F' 4 else if r[0]? = some 42 then proG names F' n' (putM m p) (r.drop 1) else .ok (putM m p) r) (powG_cuts (N + 1) names) fun a b p => Cuts.ite _ (Cuts.err _ (fun _ => F) (fun _ => F') 4 4 (by decide)) (Cuts.look 42 (ih _) (Cuts.pure _ _))
  exact this.same (fun l => by rw [proG]) (fun l => by rw [proG])
 | N + 1, 0, _, _, h, _ => by omega
 | N + 1, _, 0, _, _, h => by omega
theorem proG_fuel (names : List ByteArray) (F : Nat) : ∀ (n n' : Nat) (m : List Int) (l : List UInt8), l.length < n -> l.length < n' -> proG names F n m l = proG names F n' m l
 | n + 1, n' + 1, m, l, h, h' => by
  rw [proG, proG]
  cases hp : powG names l with
  | bad k e => rfl
  | ok p r =>
   have hr := (powG_cuts (l.length + 1) names).sub l p r (by omega) hp
   show (if _ then _ else _) = (if _ then _ else _)
   split
   · rfl
   ·
    split
    ·
     next hc =>
     have := head_len hc
     exact proG_fuel names F n n' _ _ (by rw [List.length_drop]; omega) (by rw [List.length_drop]; omega)
    · rfl
 | 0, _, _, _, h, _ => by omega
 | _, 0, _, _, _, h => by omega
theorem monG_cuts (N : Nat) (names : List ByteArray) (F F' : Nat) (q : Rat) : Cuts N (monG names F q) (monG names F' q) := by
 refine Cuts.bnd (G := fun l => proG names F (l.length + 1) zerM l) (G' := fun l => proG names F' (l.length + 1) zerM l) (f := fun _ m r => .ok (q, cutM m) r) (f' := fun _ m r => .ok (q, cutM m) r) ?_ fun a b m => Cuts.pure _ _
 exact (proG_cuts names F F' N N N zerM (nlr _) (nlr _)).sameN (fun l h => proG_fuel names F _ _ _ _ h (by omega)) (fun l h => proG_fuel names F' _ _ _ _ h (by omega))
theorem cofG_cuts (N : Nat) : Cuts N cofG cofG := by
 refine Cuts.bnd (numG_cuts N) fun a b p => ?_
 refine Cuts.look 47 (A := fun l => (numG l).bnd fun q r2 => if decL q = 0 then .bad l.length 3 else .ok (qv false (decL p) (decL q)) r2) (A' := fun l => (numG l).bnd fun q r2 => if decL q = 0 then .bad l.length 3 else .ok (qv false (decL p) (decL q)) r2) ?_ (Cuts.pure N _)
 refine Cuts.bnd (numG_cuts _) fun a b d => ?_
 exact Cuts.ite _ (Cuts.err _ (fun _ => a.length) (fun _ => b.length) 3 3 (by decide)) (Cuts.pure _ _)
theorem numG_eats {l : List UInt8} (h : numL l ≠ 0) : (∀ d r, numG l = .ok d r -> r.length < l.length) /\ ∀ k, numG l ≠ .bad k 9 := by
 have hle := numL_word.le l
 unfold numG
 rw [if_neg h]
 constructor
 ·
  intro d r e
  split at e
  · cases e
  · injection e with _ e; rw [<- e, List.length_drop]; omega
 ·
  intro k e
  split at e
  · injection e with _ e; exact absurd e (by decide)
  · cases e
theorem cofG_eats {l : List UInt8} (h : numL l ≠ 0) : (∀ q r, cofG l = .ok q r -> r.length < l.length) /\ ∀ k, cofG l = .bad k 9 -> k < l.length := by
 obtain ⟨h1, h2⟩ := numG_eats h
 have hk : ∀ p : List UInt8, Cuts (l.length + 1) (fun r => if r[0]? = some 47 then (numG (r.drop 1)).bnd fun q r2 => if decL q = 0 then (.bad (r.drop 1).length 3 : Got Rat) else .ok (qv false (decL p) (decL q)) r2 else .ok (qv false (decL p) 1) r) (fun r => if r[0]? = some 47 then (numG (r.drop 1)).bnd fun q r2 => if decL q = 0 then (.bad (r.drop 1).length 3 : Got Rat) else .ok (qv false (decL p) (decL q)) r2 else .ok (qv false (decL p) 1) r) := fun p => by
  refine Cuts.look 47 (A := fun l => (numG l).bnd fun q r2 => if decL q = 0 then .bad l.length 3 else .ok (qv false (decL p) (decL q)) r2) (A' := fun l => (numG l).bnd fun q r2 => if decL q = 0 then .bad l.length 3 else .ok (qv false (decL p) (decL q)) r2) ?_ (Cuts.pure _ _)
  refine Cuts.bnd (numG_cuts _) fun a b d => ?_
  exact Cuts.ite _ (Cuts.err _ (fun _ => a.length) (fun _ => b.length) 3 3 (by decide)) (Cuts.pure _ _)
 unfold cofG
 cases hn : numG l with
 | bad k e =>
  refine ⟨fun q r c => (by cases c), fun k' c => ?_⟩
  injection c with c1 c2
  subst c2
  exact (h2 k hn).elim
 | ok p s =>
  have hs := h1 p s hn
  exact ⟨fun q r c => Nat.lt_of_le_of_lt ((hk p).sub s q r (by omega) c) hs, fun k c => Nat.lt_of_le_of_lt ((hk p).far s k (by omega) c) hs⟩
theorem terG_cuts (N : Nat) (names : List ByteArray) : Cuts N (terG names) (terG names) := by
 have hk : ∀ (a b : List UInt8) (q : Rat), Cuts N (fun r => if r[0]? = some 42 then monG names a.length q (r.drop 1) else .ok (q, []) r) (fun r => if r[0]? = some 42 then monG names b.length q (r.drop 1) else .ok (q, []) r) := fun a b q => Cuts.look 42 (monG_cuts _ names _ _ q) (Cuts.pure _ _)
 have hA := Cuts.bnd (f := fun l q r => if r[0]? = some 42 then monG names l.length q (r.drop 1) else .ok (q, []) r) (f' := fun l q r => if r[0]? = some 42 then monG names l.length q (r.drop 1) else .ok (q, []) r) (cofG_cuts N) hk
 have hB : Cuts N (fun l => monG names l.length 1 l) (fun l => monG names l.length 1 l) := by
  have := Cuts.bnd (G := fun l => .ok () l) (G' := fun l => .ok () l) (f := fun l _ r => monG names l.length 1 r) (f' := fun l _ r => monG names l.length 1 r) (Cuts.pure N ()) fun a b _ => monG_cuts N names a.length b.length 1
  exact this
 have := Cuts.pick (p := fun l => numL l ≠ 0) (A := fun l => (cofG l).bnd fun q r => if r[0]? = some 42 then monG names l.length q (r.drop 1) else .ok (q, []) r) (A' := fun l => (cofG l).bnd fun q r => if r[0]? = some 42 then monG names l.length q (r.drop 1) else .ok (q, []) r)
  (fun c u v => ?_) (fun h => h rfl) (fun l x r hN hp e => ?_) (fun l k hN hp e => ?_) (fun u v x r hN hv _ e hr => hA.ok u v x r hN hv e hr) (fun u v k hN hv _ e hk => hA.form u v k hN hv e hk) (fun u v hN hv _ e => hA.edge u v hN hv e) hB
 ·
  refine this.same (fun l => ?_) (fun l => ?_) <;>
  ·
   unfold terG
   by_cases h : numL l = 0
   · rw [if_pos h, if_neg (fun c => c h)]
   · rw [if_neg h, if_pos h]
 ·
  have e : numL (c :: (u ++ v)) = 0 ↔ numL (c :: u) = 0 := by
   refine ⟨numL_word.zero c u v, fun h => ?_⟩
   rw [numL] at h ⊢
   split
   ·
    next hc =>
    rw [if_pos hc] at h
    split at h <;> omega
   · rfl
  exact not_congr e
 ·
  obtain ⟨h1, h2⟩ := cofG_eats hp
  cases hc : cofG l with
  | bad k e' => rw [hc] at e; cases e
  | ok q s =>
   rw [hc] at e
   have h3 := h1 q s hc
   exact Nat.lt_of_le_of_lt ((hk l l q).sub s x r (by omega) e) h3
 ·
  obtain ⟨h1, h2⟩ := cofG_eats hp
  cases hc : cofG l with
  | bad k' e' =>
   rw [hc] at e
   have : k' = k /\ e' = 9 := by injection e with a b; exact ⟨a, b⟩
   obtain ⟨rfl, rfl⟩ := this
   exact h2 k' hc
  | ok q s =>
   rw [hc] at e
   have h3 := h1 q s hc
   exact Nat.lt_of_le_of_lt ((hk l l q).far s k (by omega) e) h3
theorem eatG_cuts (N : Nat) (c : UInt8) : Cuts N (eatG c) (eatG c) := Cuts.look c (A := fun l => .ok () l) (A' := fun l => .ok () l) (Cuts.pure _ _) (Cuts.lost N)
theorem sepG_cuts (N : Nat) : Cuts N sepG sepG := by
 refine Cuts.bnd (eatG_cuts N 32) fun a b _ => ?_
 refine Cuts.look 45 (A := fun l => (eatG 32 l).bnd fun _ r' => .ok true r') (A' := fun l => (eatG 32 l).bnd fun _ r' => .ok true r') (Cuts.bnd (eatG_cuts _ 32) fun a b _ => Cuts.pure _ _) ?_
 exact Cuts.bnd (eatG_cuts N 43) fun a b _ => Cuts.bnd (eatG_cuts N 32) fun a b _ => Cuts.pure _ _
theorem eatG_less {c : UInt8} {l r : List UInt8} {x : Unit} (h : eatG c l = .ok x r) : r.length < l.length := by
 unfold eatG at h
 split at h
 ·
  next hc =>
  have := head_len hc
  injection h with _ h; rw [<- h, List.length_drop]; omega
 · exact (lost_ok h).elim
theorem sepG_less {l r : List UInt8} {ng : Bool} (h : sepG l = .ok ng r) : r.length < l.length := by
 unfold sepG at h
 cases h1 : eatG 32 l with
 | bad k e => rw [h1] at h; cases h
 | ok x s =>
  rw [h1] at h
  have h2 := eatG_less h1
  have hk : Cuts (l.length + 1) (fun r => if r[0]? = some 45 then (eatG 32 (r.drop 1)).bnd fun _ r' => (.ok true r' : Got Bool) else (eatG 43 r).bnd fun _ r1 => (eatG 32 r1).bnd fun _ r2 => .ok false r2) (fun r => if r[0]? = some 45 then (eatG 32 (r.drop 1)).bnd fun _ r' => (.ok true r' : Got Bool) else (eatG 43 r).bnd fun _ r1 => (eatG 32 r1).bnd fun _ r2 => .ok false r2) := by
   refine Cuts.look 45 (A := fun l => (eatG 32 l).bnd fun _ r' => .ok true r') (A' := fun l => (eatG 32 l).bnd fun _ r' => .ok true r') (Cuts.bnd (eatG_cuts _ 32) fun a b _ => Cuts.pure _ _) ?_
   exact Cuts.bnd (eatG_cuts _ 43) fun a b _ => Cuts.bnd (eatG_cuts _ 32) fun a b _ => Cuts.pure _ _
  exact Nat.lt_of_le_of_lt (hk.sub s ng r (by omega) h) h2
def Fine {α : Type} (N : Nat) (g : Got α) : Prop := ∀ k e, g = .bad k e -> k <= N /\ (e = 9 -> 0 < k) /\ (e = 10 -> k = 0) /\ e ≠ 0
theorem Fine.mono {α : Type} {N M : Nat} {g : Got α} (h : Fine N g) (hN : N <= M) : Fine M g := fun k e hk => ⟨Nat.le_trans (h k e hk).1 hN, (h k e hk).2⟩
theorem Fine.okk {α : Type} (N : Nat) (x : α) (r : List UInt8) : Fine N (.ok x r) := fun _ _ h => by cases h
theorem Fine.err {α : Type} {N k : Nat} {e : Int} (hk : k <= N) (h9 : e ≠ 9) (h10 : e ≠ 10) (h0 : e ≠ 0 := by decide) : Fine N (.bad k e : Got α) := fun k' e' h => by
 injection h with a b
 subst a b
 exact ⟨hk, fun c => absurd c h9, fun c => absurd c h10, h0⟩
theorem Fine.lost {α : Type} (l : List UInt8) : Fine l.length (Go.Proofs.YtkjnkpkagcboeaaGreatDoor.lost l : Got α) := fun k e h => by
 unfold Go.Proofs.YtkjnkpkagcboeaaGreatDoor.lost at h
 split at h
 ·
  injection h with a b
  subst a b
  exact ⟨Nat.zero_le _, fun c => absurd c (by decide), fun _ => rfl, by decide⟩
 ·
  injection h with a b
  subst a b
  exact ⟨nlr _, fun _ => by omega, fun c => absurd c (by decide), by decide⟩
theorem Fine.bnd {α β : Type} {N : Nat} {g : Got α} {f : α -> List UInt8 -> Got β} (hg : Fine N g) (hf : ∀ x r, g = .ok x r -> Fine N (f x r)) : Fine N (g.bnd f) := fun k e h => by
 cases hc : g with
 | ok x r => rw [hc] at h; exact hf x r hc k e h
 | bad k' e' =>
  rw [hc] at h
  have : k' = k /\ e' = e := by injection h with a b; exact ⟨a, b⟩
  obtain ⟨rfl, rfl⟩ := this
  exact hg k' e' hc
theorem Fine.ite {α : Type} {N : Nat} {p : Prop} [Decidable p] {a b : Got α} (ha : p -> Fine N a) (hb : ¬ p -> Fine N b) : Fine N (if p then a else b) := by
 split
 · next h => exact ha h
 · next h => exact hb h
theorem drop_le1 (r : List UInt8) : (r.drop 1).length <= r.length := by rw [List.length_drop]; omega
theorem numG_fine (l : List UInt8) : Fine l.length (numG l) := by
 unfold numG
 exact Fine.ite (fun _ => Fine.lost l) fun _ => Fine.ite (fun _ => Fine.err (nlr _) (by decide) (by decide)) fun _ => Fine.okk _ _ _
theorem namG_fine (names : List ByteArray) (l : List UInt8) : Fine l.length (namG names l) := by
 unfold namG
 refine Fine.ite (fun _ => Fine.lost l) fun _ => ?_
 split
 · exact Fine.err (nlr _) (by decide) (by decide)
 · exact Fine.okk _ _ _
theorem powG_fine (names : List ByteArray) (l : List UInt8) : Fine l.length (powG names l) := by
 unfold powG
 refine Fine.bnd (namG_fine names l) fun v r hr => ?_
 have h1 := (namG_cuts (l.length + 1) names).sub l v r (by omega) hr
 have h2 := drop_le1 r
 refine Fine.ite (fun _ => ?_) fun _ => Fine.okk _ _ _
 refine Fine.bnd ((numG_fine _).mono (by omega)) fun d s _ => ?_
 exact Fine.ite (fun _ => Fine.err (by omega) (by decide) (by decide)) fun _ => Fine.okk _ _ _
theorem proG_fine (names : List ByteArray) (F M : Nat) (hF : F <= M) : ∀ (n : Nat) (m : List Int) (l : List UInt8), l.length <= M -> Fine M (proG names F n m l)
 | 0, m, l, h => by rw [proG]; exact Fine.err (Nat.zero_le _) (by decide) (by decide)
 | n + 1, m, l, h => by
  rw [proG]
  refine Fine.bnd ((powG_fine names l).mono h) fun p r hr => ?_
  have h1 := (powG_cuts (l.length + 1) names).sub l p r (by omega) hr
  have h2 := drop_le1 r
  refine Fine.ite (fun _ => Fine.err hF (by decide) (by decide)) fun _ => Fine.ite (fun _ => proG_fine names F M hF n _ _ (by omega)) fun _ => Fine.okk _ _ _
theorem monG_fine (names : List ByteArray) (F M : Nat) (hF : F <= M) (q : Rat) (l : List UInt8) (h : l.length <= M) : Fine M (monG names F q l) := by
 unfold monG
 exact Fine.bnd (proG_fine names F M hF _ _ l h) fun _ _ _ => Fine.okk _ _ _
theorem cofG_fine (l : List UInt8) : Fine l.length (cofG l) := by
 unfold cofG
 refine Fine.bnd (numG_fine l) fun p r hr => ?_
 have h1 := (numG_cuts (l.length + 1)).sub l p r (by omega) hr
 have h2 := drop_le1 r
 refine Fine.ite (fun _ => ?_) fun _ => Fine.okk _ _ _
 refine Fine.bnd ((numG_fine _).mono (by omega)) fun d s _ => ?_
 exact Fine.ite (fun _ => Fine.err (by omega) (by decide) (by decide)) fun _ => Fine.okk _ _ _
theorem terG_fine (names : List ByteArray) (l : List UInt8) : Fine l.length (terG names l) := by
 unfold terG
 refine Fine.ite (fun _ => monG_fine names _ _ (nlr _) _ _ (nlr _)) fun _ => ?_
 refine Fine.bnd (cofG_fine l) fun q r hr => ?_
 have h1 := (cofG_cuts (l.length + 1)).sub l q r (by omega) hr
 have h2 := drop_le1 r
 exact Fine.ite (fun _ => monG_fine names _ _ (nlr _) _ _ (by omega)) fun _ => Fine.okk _ _ _
theorem eatG_fine (c : UInt8) (l : List UInt8) : Fine l.length (eatG c l) := by
 unfold eatG
 exact Fine.ite (fun _ => Fine.okk _ _ _) fun _ => Fine.lost l
theorem sepG_fine (l : List UInt8) : Fine l.length (sepG l) := by
 unfold sepG
 refine Fine.bnd (eatG_fine 32 l) fun _ r hr => ?_
 have h1 := eatG_less hr
 have h2 := drop_le1 r
 refine Fine.ite (fun _ => Fine.bnd ((eatG_fine 32 _).mono (by omega)) fun _ _ _ => Fine.okk _ _ _) fun _ => ?_
 refine Fine.bnd ((eatG_fine 43 _).mono (by omega)) fun _ r1 hr1 => ?_
 have h3 := eatG_less hr1
 exact Fine.bnd ((eatG_fine 32 _).mono (by omega)) fun _ _ _ => Fine.okk _ _ _
theorem sumG_fine (names : List ByteArray) (M : Nat) : ∀ (f : Nat) (neg : Bool) (acc : List (Rat × List Int)) (l : List UInt8), l.length <= M -> Fine M (sumG names f neg acc l)
 | 0, _, _, l, _ => by rw [sumG]; exact Fine.err (Nat.zero_le _) (by decide) (by decide)
 | f + 1, neg, acc, l, h => by
  rw [sumG]
  refine Fine.ite (fun _ => Fine.err h (by decide) (by decide)) fun _ => ?_
  refine Fine.bnd ((terG_fine names l).mono h) fun t r hr => ?_
  have h1 := (terG_cuts (l.length + 1) names).sub l t r (by omega) hr
  refine Fine.ite (fun _ => Fine.okk _ _ _) fun _ => ?_
  refine Fine.bnd ((sepG_fine r).mono (by omega)) fun ng s hs => ?_
  have h2 := sepG_less hs
  exact sumG_fine names M f ng _ s (by omega)
theorem reaG_fine (names : List ByteArray) (l : List UInt8) : Fine l.length (reaG names l) := by
 unfold reaG
 exact Fine.ite (fun _ => sumG_fine names _ _ _ _ _ (drop_le1 l)) fun _ => sumG_fine names _ _ _ _ _ (nlr _)
theorem sumG_fuel (names : List ByteArray) : ∀ (f f' : Nat) (neg : Bool) (acc : List (Rat × List Int)) (l : List UInt8), l.length < f -> l.length < f' -> sumG names f neg acc l = sumG names f' neg acc l
 | f + 1, f' + 1, neg, acc, l, h, h' => by
  rw [sumG, sumG]
  split
  · rfl
  ·
   cases ht : terG names l with
   | bad k e => rfl
   | ok t r =>
    have h1 := (terG_cuts (l.length + 1) names).sub l t r (by omega) ht
    show (if _ then _ else _) = (if _ then _ else _)
    split
    · rfl
    ·
     cases hs : sepG r with
     | bad k e => rfl
     | ok ng s =>
      have h2 := sepG_less hs
      exact sumG_fuel names f f' ng _ s (by omega) (by omega)
 | 0, _, _, _, _, h, _ => by omega
 | _, 0, _, _, _, _, h => by omega
theorem sumG_cuts (names : List ByteArray) : ∀ (f : Nat) (neg : Bool) (acc : List (Rat × List Int)) (u v : List UInt8), (u ++ v).length < f -> v ≠ [] ->
  (∀ k, sumG names f neg acc (u ++ v) = .bad k 9 -> v.length < k -> sumG names f neg acc u = .bad (k - v.length) 9) /\ (sumG names f neg acc (u ++ v) = .bad v.length 9 -> ∀ k, sumG names f neg acc u ≠ .bad k 9)
 | 0, _, _, _, _, h, _ => by omega
 | f + 1, neg, acc, u, v, hf, hv => by
  have C := terG_cuts ((u ++ v).length + 1) names
  have D := sepG_cuts ((u ++ v).length + 1)
  by_cases h4 : acc.length = 4000
  ·
   constructor
   ·
    intro k h _
    rw [sumG, if_pos h4] at h
    injection h with _ h
    exact absurd h (by decide)
   ·
    intro h
    rw [sumG, if_pos h4] at h
    injection h with _ h
    exact absurd h (by decide)
  ·
   rw [sumG, sumG, if_neg h4, if_neg h4]
   cases ht : terG names (u ++ v) with
   | bad m e =>
    constructor
    ·
     intro k h hk
     have : m = k /\ e = 9 := by injection h with a b; exact ⟨a, b⟩
     obtain ⟨rfl, rfl⟩ := this
     rw [C.form u v m (by omega) hv ht hk]
     rfl
    ·
     intro h k
     have : m = v.length /\ e = 9 := by injection h with a b; exact ⟨a, b⟩
     obtain ⟨rfl, rfl⟩ := this
     rw [C.edge u v (by omega) hv ht]
     intro c
     injection c with _ c
     exact absurd c (by decide)
   | ok t s =>
    have hsl := C.sub _ t s (by omega) ht
    have key : ∀ k, v.length <= k -> ((Got.ok t s : Got (Rat × List Int)).bnd fun t r => if r.length = 0 then .ok (acc ++ [sgnT neg t]) r else (sepG r).bnd fun ng r' => sumG names f ng (acc ++ [sgnT neg t]) r') = .bad k 9 ->
      ∃ s', s = s' ++ v /\ terG names u = .ok t s' := fun k hk h => by
     have h' : (if s.length = 0 then Got.ok (acc ++ [sgnT neg t]) s else (sepG s).bnd fun ng r' => sumG names f ng (acc ++ [sgnT neg t]) r') = .bad k 9 := h
     split at h'
     · cases h'
     ·
      have hks : k <= s.length := (Fine.bnd (sepG_fine s) (fun ng r hr => sumG_fine names s.length f ng _ r (Nat.le_of_lt (sepG_less hr))) k 9 h').1
      exact C.ok u v t s (by omega) hv ht (by omega)
    constructor
    ·
     intro k h hk
     obtain ⟨s', rfl, h2⟩ := key k (by omega) h
     rw [h2]
     have h' : (if (s' ++ v).length = 0 then Got.ok (acc ++ [sgnT neg t]) (s' ++ v) else (sepG (s' ++ v)).bnd fun ng r' => sumG names f ng (acc ++ [sgnT neg t]) r') = .bad k 9 := h
     rw [if_neg (by rw [List.length_append]; have := List.length_pos_iff.2 hv; omega)] at h'
     show (if s'.length = 0 then Got.ok (acc ++ [sgnT neg t]) s' else (sepG s').bnd fun ng r' => sumG names f ng (acc ++ [sgnT neg t]) r') = _
     have hks : k <= (s' ++ v).length := (Fine.bnd (sepG_fine _) (fun ng r hr => sumG_fine names (s' ++ v).length f ng _ r (Nat.le_of_lt (sepG_less hr))) k 9 h').1
     rw [if_neg (by rw [List.length_append] at hks; omega)]
     cases hs : sepG (s' ++ v) with
     | bad m e =>
      rw [hs] at h'
      have : m = k /\ e = 9 := by injection h' with a b; exact ⟨a, b⟩
      obtain ⟨rfl, rfl⟩ := this
      rw [D.form s' v m (by omega) hv hs hk]
      rfl
     | ok ng r =>
      rw [hs] at h'
      have h3 : sumG names f ng (acc ++ [sgnT neg t]) r = .bad k 9 := h'
      have hless := sepG_less hs
      have h5 := (sumG_fine names r.length f ng _ r (nlr _) k 9 h3).1
      obtain ⟨r', rfl, h6⟩ := D.ok s' v ng r (by omega) hv hs (by omega)
      rw [h6]
      exact (sumG_cuts names f ng _ r' v (by omega) hv).1 k h3 hk
    ·
     intro h k
     obtain ⟨s', rfl, h2⟩ := key v.length (nlr _) h
     rw [h2]
     have h' : (if (s' ++ v).length = 0 then Got.ok (acc ++ [sgnT neg t]) (s' ++ v) else (sepG (s' ++ v)).bnd fun ng r' => sumG names f ng (acc ++ [sgnT neg t]) r') = .bad v.length 9 := h
     rw [if_neg (by rw [List.length_append]; have := List.length_pos_iff.2 hv; omega)] at h'
     show (if s'.length = 0 then Got.ok (acc ++ [sgnT neg t]) s' else (sepG s').bnd fun ng r' => sumG names f ng (acc ++ [sgnT neg t]) r') ≠ _
     split
     · intro c; cases c
     ·
      cases hs : sepG (s' ++ v) with
      | bad m e =>
       rw [hs] at h'
       have : m = v.length /\ e = 9 := by injection h' with a b; exact ⟨a, b⟩
       obtain ⟨rfl, rfl⟩ := this
       rw [D.edge s' v (by omega) hv hs]
       intro c
       have : (10 : Int) = 9 := by injection c
       exact absurd this (by decide)
      | ok ng r =>
       rw [hs] at h'
       have h3 : sumG names f ng (acc ++ [sgnT neg t]) r = .bad v.length 9 := h'
       have hless := sepG_less hs
       have h5 := (sumG_fine names r.length f ng _ r (nlr _) _ 9 h3).1
       obtain ⟨r', rfl, h6⟩ := D.ok s' v ng r (by omega) hv hs (by omega)
       rw [h6]
       exact (sumG_cuts names f ng _ r' v (by omega) hv).2 h3 k
theorem reaG_cuts (names : List ByteArray) (u v : List UInt8) (hv : v ≠ []) :
  (∀ k, reaG names (u ++ v) = .bad k 9 -> v.length < k -> reaG names u = .bad (k - v.length) 9) /\ (reaG names (u ++ v) = .bad v.length 9 -> ∀ k, reaG names u ≠ .bad k 9) := by
 have hl : 0 < v.length := List.length_pos_iff.2 hv
 have fu := fun neg (l : List UInt8) (h : l.length <= u.length) => sumG_fuel names (u.length + 1) ((u ++ v).length + 1) neg [] l (by omega) (by rw [List.length_append]; omega)
 cases u with
 | nil =>
  rw [List.nil_append]
  have h0 : reaG names [] = .bad 0 10 := by
   have h1 : numL [] = 0 := rfl
   have h2 : namL [] = 0 := rfl
   simp [reaG, sumG, terG, h1, monG, proG, powG, namG, h2, lost, Got.bnd]
  rw [h0]
  constructor
  ·
   intro k h hk
   have := (reaG_fine names v k 9 h).1
   omega
  ·
   intro _ k c
   injection c with _ c
   exact absurd c (by decide)
 | cons d u =>
  unfold reaG
  have e0 : (d :: u ++ v)[0]? = (d :: u)[0]? := rfl
  rw [e0]
  split
  ·
   next hc =>
   rw [fu true _ (drop_le1 _)]
   have e1 : (d :: u ++ v).drop 1 = u ++ v := rfl
   have e2 : (d :: u).drop 1 = u := rfl
   rw [e1, e2]
   exact sumG_cuts names _ true [] u v (by simp only [List.length_append, List.length_cons]; omega) hv
  ·
   rw [fu false _ (nlr _)]
   exact sumG_cuts names _ false [] (d :: u) v (by simp) hv
theorem reaG_form {names : List ByteArray} {s : List UInt8} {k : Nat} (h : reaG names s = .bad k 9) : 0 < k /\ k <= s.length /\ (∀ j, reaG names (s.take (s.length - k)) ≠ .bad j 9) /\ reaG names (s.take (s.length - k + 1)) = .bad 1 9 := by
 obtain ⟨h1, h2, _⟩ := reaG_fine names s k 9 h
 have hk := h2 rfl
 refine ⟨hk, h1, ?_, ?_⟩
 ·
  have hc := reaG_cuts names (s.take (s.length - k)) (s.drop (s.length - k)) (fun e => by have := congrArg List.length e; rw [List.length_drop] at this; simp at this; omega)
  rw [List.take_append_drop, List.length_drop, show s.length - (s.length - k) = k by omega] at hc
  exact hc.2 h
 ·
  by_cases h1k : k = 1
  ·
   subst h1k
   rw [show s.length - 1 + 1 = s.length by omega, List.take_length]
   exact h
  ·
   have hc := reaG_cuts names (s.take (s.length - k + 1)) (s.drop (s.length - k + 1)) (fun e => by have := congrArg List.length e; rw [List.length_drop] at this; simp at this; omega)
   rw [List.take_append_drop, List.length_drop, show s.length - (s.length - k + 1) = k - 1 by omega] at hc
   rw [hc.1 k h (by omega)]
   congr 1
   omega
end Go.Proofs.YtkjnkpkagcboeaaGreatDoor
