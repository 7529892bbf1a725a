/- The reader of a polynomial's text as it lies in memory: where it stands, and what a method leaves of it; walks: peek, fail, refuse, take. -/
import Derived.Test.YtkjnkpkagcboeaaGreatDoorCg12
import Derived.Test.YtkjnkpkagcboeaaGreatDoorCg6
import Derived.Test.YtkjnkpkagcboeaaGreatDoorCg3
set_option linter.all false
set_option maxRecDepth 100000
set_option maxHeartbeats 4000000
namespace Go.Proofs.YtkjnkpkagcboeaaGreatDoor
open Go.RowKit
structure Cuts {α : Type} (N : Nat) (G G' : List UInt8 -> Got α) : Prop where
 sub : ∀ l x r, l.length < N -> G l = .ok x r -> r.length <= l.length
 far : ∀ l k, l.length < N -> G l = .bad k 9 -> k <= l.length
 ok : ∀ u v x r, (u ++ v).length < N -> v ≠ [] -> G (u ++ v) = .ok x r -> v.length <= r.length -> ∃ r', r = r' ++ v /\ G' u = .ok x r'
 form : ∀ u v k, (u ++ v).length < N -> v ≠ [] -> G (u ++ v) = .bad k 9 -> v.length < k -> G' u = .bad (k - v.length) 9
 edge : ∀ u v, (u ++ v).length < N -> v ≠ [] -> G (u ++ v) = .bad v.length 9 -> G' u = .bad 0 10
theorem lost_cuts {α : Type} : ∀ (u v : List UInt8), v ≠ [] -> (∀ k, (lost (u ++ v) : Got α) = .bad k 9 -> v.length < k -> (lost u : Got α) = .bad (k - v.length) 9) /\ ((lost (u ++ v) : Got α) = .bad v.length 9 -> (lost u : Got α) = .bad 0 10) := fun u v hv => by
 have hl : 0 < v.length := List.length_pos_iff.2 hv
 unfold lost
 rw [List.length_append, if_neg (by omega)]
 constructor
 ·
  intro k h hk
  injection h with h _
  rw [if_neg (by omega)]
  congr 1
  omega
 ·
  intro h
  injection h with h _
  rw [if_pos (by omega)]
theorem lost_far {α : Type} {l : List UInt8} {k : Nat} {e : Int} (h : (lost l : Got α) = .bad k e) : k <= l.length := by
 unfold lost at h
 split at h <;> injection h with h _ <;> omega
theorem lost_ok {α : Type} {l : List UInt8} {x : α} {r : List UInt8} (h : (lost l : Got α) = .ok x r) : False := by
 unfold lost at h
 split at h <;> cases h
theorem Cuts.bnd {α β : Type} {N : Nat} {G G' : List UInt8 -> Got α} {f f' : List UInt8 -> α -> List UInt8 -> Got β} (h : Cuts N G G') (k : ∀ a b x, Cuts N (f a x) (f' b x)) : Cuts N (fun l => (G l).bnd (f l)) (fun l => (G' l).bnd (f' l)) where
 sub l x r hN e := by
  cases hg : G l with
  | ok y s =>
   rw [hg] at e
   have h1 := h.sub l y s hN hg
   exact Nat.le_trans ((k l l y).sub s x r (by omega) e) h1
  | bad k e' => rw [hg] at e; cases e
 far l n hN hb := by
  cases hg : G l with
  | ok y s =>
   rw [hg] at hb
   have h1 := h.sub l y s hN hg
   exact Nat.le_trans ((k l l y).far s n (by omega) hb) h1
  | bad k e' =>
   rw [hg] at hb
   have : k = n /\ e' = 9 := by injection hb with a b; exact ⟨a, b⟩
   obtain ⟨rfl, rfl⟩ := this
   exact h.far l k hN hg
 ok u v x r hN hv e hr := by
  cases hg : G (u ++ v) with
  | ok y s =>
   rw [hg] at e
   have e2 : f (u ++ v) y s = .ok x r := e
   have h0 := h.sub _ y s hN hg
   have h1 := (k (u ++ v) u y).sub s x r (by omega) e2
   obtain ⟨s', rfl, h2⟩ := h.ok u v y s hN hv hg (by omega)
   obtain ⟨r', h3, h4⟩ := (k (u ++ v) u y).ok s' v x r (by omega) hv e2 hr
   refine ⟨r', h3, ?_⟩
   show (G' u).bnd (f' u) = _
   rw [h2]
   exact h4
  | bad k e' => rw [hg] at e; cases e
 form u v n hN hv hb hn := by
  cases hg : G (u ++ v) with
  | ok y s =>
   rw [hg] at hb
   have e2 : f (u ++ v) y s = .bad n 9 := hb
   have h0 := h.sub _ y s hN hg
   have h1 := (k (u ++ v) u y).far s n (by omega) e2
   obtain ⟨s', rfl, h2⟩ := h.ok u v y s hN hv hg (by omega)
   show (G' u).bnd (f' u) = _
   rw [h2]
   exact (k (u ++ v) u y).form s' v n (by omega) hv e2 hn
  | bad m e' =>
   rw [hg] at hb
   have h1 : m = n /\ e' = 9 := by injection hb with a b; exact ⟨a, b⟩
   obtain ⟨rfl, rfl⟩ := h1
   show (G' u).bnd (f' u) = _
   rw [h.form u v m hN hv hg hn]
   rfl
 edge u v hN hv hb := by
  cases hg : G (u ++ v) with
  | ok y s =>
   rw [hg] at hb
   have e2 : f (u ++ v) y s = .bad v.length 9 := hb
   have h0 := h.sub _ y s hN hg
   have h1 := (k (u ++ v) u y).far s _ (by omega) e2
   obtain ⟨s', rfl, h2⟩ := h.ok u v y s hN hv hg h1
   show (G' u).bnd (f' u) = _
   rw [h2]
   exact (k (u ++ v) u y).edge s' v (by omega) hv e2
  | bad m e' =>
   rw [hg] at hb
   have h1 : m = v.length /\ e' = 9 := by injection hb with a b; exact ⟨a, b⟩
   obtain ⟨rfl, rfl⟩ := h1
   show (G' u).bnd (f' u) = _
   rw [h.edge u v hN hv hg]
   rfl
theorem Cuts.pure {α : Type} (N : Nat) (x : α) : Cuts N (fun l => .ok x l) (fun l => .ok x l) :=
 ⟨fun l y r _ e => by injection e with _ e; rw [e]; exact nlr _, fun _ _ _ h => (by cases h), fun u v y r _ _ e _ => (by injection e with a b; subst a b; exact ⟨u, rfl, rfl⟩), fun _ _ _ _ _ h => (by cases h), fun _ _ _ _ h => (by cases h)⟩
theorem Cuts.err {α : Type} (N : Nat) (n n' : List UInt8 -> Nat) (e e' : Int) (he : e ≠ 9) : Cuts (α := α) N (fun l => .bad (n l) e) (fun l => .bad (n' l) e') :=
 ⟨fun _ _ _ _ h => (by cases h), fun _ _ _ h => (by injection h with _ h; exact absurd h he), fun _ _ _ _ _ _ h => (by cases h), fun _ _ _ _ _ h => (by injection h with _ h; exact absurd h he), fun _ _ _ _ h => (by injection h with _ h; exact absurd h he)⟩
theorem Cuts.pick {α : Type} {N : Nat} {p : List UInt8 -> Prop} [DecidablePred p] {A A' B B' : List UInt8 -> Got α} (hp : ∀ c u v, p (c :: (u ++ v)) ↔ p (c :: u)) (h0 : ¬ p []) (hs : ∀ l x r, l.length < N -> p l -> A l = .ok x r -> r.length < l.length) (hf : ∀ l k, l.length < N -> p l -> A l = .bad k 9 -> k < l.length)
  (hao : ∀ u v x r, (u ++ v).length < N -> v ≠ [] -> p u -> A (u ++ v) = .ok x r -> v.length <= r.length -> ∃ r', r = r' ++ v /\ A' u = .ok x r')
  (haf : ∀ u v k, (u ++ v).length < N -> v ≠ [] -> p u -> A (u ++ v) = .bad k 9 -> v.length < k -> A' u = .bad (k - v.length) 9)
  (hae : ∀ u v, (u ++ v).length < N -> v ≠ [] -> p u -> A (u ++ v) = .bad v.length 9 -> A' u = .bad 0 10)
  (hb : Cuts N B B') : Cuts N (fun l => if p l then A l else B l) (fun l => if p l then A' l else B' l) where
 sub l x r hN e := by
  split at e
  · next hc => exact Nat.le_of_lt (hs l x r hN hc e)
  · exact hb.sub l x r hN e
 far l k hN h := by
  split at h
  · next hc => exact Nat.le_of_lt (hf l k hN hc h)
  · exact hb.far l k hN h
 ok u v x r hN hv e hr := by
  cases u with
  | nil =>
   rw [List.nil_append] at e hN
   rw [if_neg h0]
   split at e
   · next hc => have := hs v x r hN hc e; omega
   · exact hb.ok [] v x r hN hv e hr
  | cons d u =>
   rw [List.cons_append] at e
   split at e
   · next hc => rw [if_pos ((hp d u v).1 hc)]; exact hao (d :: u) v x r hN hv ((hp d u v).1 hc) e hr
   · next hc => rw [if_neg (fun c => hc ((hp d u v).2 c))]; exact hb.ok (d :: u) v x r hN hv e hr
 form u v k hN hv h hk := by
  cases u with
  | nil =>
   rw [List.nil_append] at h hN
   rw [if_neg h0]
   split at h
   · next hc => have := hf v k hN hc h; omega
   · exact hb.form [] v k hN hv h hk
  | cons d u =>
   rw [List.cons_append] at h
   split at h
   · next hc => rw [if_pos ((hp d u v).1 hc)]; exact haf (d :: u) v k hN hv ((hp d u v).1 hc) h hk
   · next hc => rw [if_neg (fun c => hc ((hp d u v).2 c))]; exact hb.form (d :: u) v k hN hv h hk
 edge u v hN hv h := by
  cases u with
  | nil =>
   rw [List.nil_append] at h hN
   rw [if_neg h0]
   split at h
   · next hc => have := hf v _ hN hc h; omega
   · exact hb.edge [] v hN hv h
  | cons d u =>
   rw [List.cons_append] at h
   split at h
   · next hc => rw [if_pos ((hp d u v).1 hc)]; exact hae (d :: u) v hN hv ((hp d u v).1 hc) h
   · next hc => rw [if_neg (fun c => hc ((hp d u v).2 c))]; exact hb.edge (d :: u) v hN hv h
theorem head_len {c : UInt8} {l : List UInt8} (h : l[0]? = some c) : 0 < l.length := by
 cases l with
 | nil => cases h
 | cons d l => simp
theorem Cuts.look {α : Type} {N : Nat} (c : UInt8) {A A' B B' : List UInt8 -> Got α} (ha : Cuts (N - 1) A A') (hb : Cuts N B B') : Cuts N (fun l => if l[0]? = some c then A (l.drop 1) else B l) (fun l => if l[0]? = some c then A' (l.drop 1) else B' l) := by
 refine Cuts.pick (p := fun l => l[0]? = some c) (fun d u v => Iff.rfl) (by simp) (fun l x r hN hc e => ?_) (fun l k hN hc e => ?_) (fun u v x r hN hv hc e hr => ?_) (fun u v k hN hv hc e hk => ?_) (fun u v hN hv hc e => ?_) hb
 ·
  have h1 := head_len hc
  have := ha.sub _ x r (by rw [List.length_drop]; omega) e
  rw [List.length_drop] at this; omega
 ·
  have h1 := head_len hc
  have := ha.far _ k (by rw [List.length_drop]; omega) e
  rw [List.length_drop] at this; omega
 ·
  have h1 := head_len hc
  rw [List.drop_append_of_le_length h1] at e
  exact ha.ok _ v x r (by rw [List.length_append, List.length_drop]; rw [List.length_append] at hN; omega) hv e hr
 ·
  have h1 := head_len hc
  rw [List.drop_append_of_le_length h1] at e
  exact ha.form _ v k (by rw [List.length_append, List.length_drop]; rw [List.length_append] at hN; omega) hv e hk
 ·
  have h1 := head_len hc
  rw [List.drop_append_of_le_length h1] at e
  exact ha.edge _ v (by rw [List.length_append, List.length_drop]; rw [List.length_append] at hN; omega) hv e
theorem Cuts.same {α : Type} {N : Nat} {G G' H H' : List UInt8 -> Got α} (h : Cuts N G G') (e : ∀ l, G l = H l) (e' : ∀ l, G' l = H' l) : Cuts N H H' := by
 rwa [<- (funext e : G = H), <- (funext e' : G' = H')]
theorem Cuts.lost {α : Type} (N : Nat) : Cuts (α := α) N Go.Proofs.YtkjnkpkagcboeaaGreatDoor.lost Go.Proofs.YtkjnkpkagcboeaaGreatDoor.lost :=
 ⟨fun _ _ _ _ e => (lost_ok e).elim, fun _ _ _ h => lost_far h, fun _ _ _ _ _ _ e _ => (lost_ok e).elim, fun u v k _ hv h hk => (lost_cuts u v hv).1 k h hk, fun u v _ hv h => (lost_cuts u v hv).2 h⟩
theorem Cuts.ite {α : Type} {N : Nat} (p : Prop) [Decidable p] {A A' B B' : List UInt8 -> Got α} (ha : Cuts N A A') (hb : Cuts N B B') : Cuts N (fun l => if p then A l else B l) (fun l => if p then A' l else B' l) := by
 by_cases h : p
 · simpa only [if_pos h] using ha
 · simpa only [if_neg h] using hb
theorem takeWhile_cut (p : UInt8 -> Bool) : ∀ (u v : List UInt8), ((u ++ v).takeWhile p).length = (u.takeWhile p).length \/ u.takeWhile p = u /\ u.length < ((u ++ v).takeWhile p).length
 | [], v => by
  rcases Nat.eq_zero_or_pos (v.takeWhile p).length with h | h
  · exact .inl (by simpa using h)
  · exact .inr ⟨rfl, by simpa using h⟩
 | c :: u, v => by
  rw [List.cons_append, List.takeWhile_cons, List.takeWhile_cons]
  cases hc : p c
  · exact .inl rfl
  ·
   simp only [if_true, List.length_cons]
   rcases takeWhile_cut p u v with h | ⟨h1, h2⟩
   · exact .inl (by omega)
   · exact .inr ⟨by rw [h1], by omega⟩
structure Word (m : List UInt8 -> Nat) : Prop where
 le : ∀ l, m l <= l.length
 nil : m [] = 0
 cut : ∀ u v, m (u ++ v) = m u \/ u.length < m (u ++ v)
 zero : ∀ c u v, m (c :: (u ++ v)) = 0 -> m (c :: u) = 0
theorem numL_word : Word numL where
 le l := by
  cases l with
  | nil => exact nlr _
  | cons c r =>
   rw [numL, List.length_cons]
   have := (List.takeWhile_sublist digU (l := r)).length_le
   split
   · split <;> omega
   · omega
 nil := rfl
 cut u v := by
  cases u with
  | nil =>
   rcases Nat.eq_zero_or_pos (numL v) with h | h
   · exact .inl (by rw [List.nil_append, h]; rfl)
   · exact .inr (by simpa using h)
  | cons c u =>
   rw [List.cons_append, numL, numL, List.length_cons]
   split
   ·
    split
    · exact .inl rfl
    ·
     rcases takeWhile_cut digU u v with h | ⟨h1, h2⟩
     · exact .inl (by omega)
     · exact .inr (by omega)
   · exact .inl rfl
 zero c u v h := by
  rw [numL] at h ⊢
  split
  ·
   next hc =>
   rw [if_pos hc] at h
   split at h <;> omega
  · rfl
theorem namL_word : Word namL where
 le l := by
  cases l with
  | nil => exact nlr _
  | cons c r =>
   rw [namL, List.length_cons]
   have := (List.takeWhile_sublist wordV (l := r)).length_le
   split <;> omega
 nil := rfl
 cut u v := by
  cases u with
  | nil =>
   rcases Nat.eq_zero_or_pos (namL v) with h | h
   · exact .inl (by rw [List.nil_append, h]; rfl)
   · exact .inr (by simpa using h)
  | cons c u =>
   rw [List.cons_append, namL, namL, List.length_cons]
   split
   ·
    rcases takeWhile_cut wordV u v with h | ⟨h1, h2⟩
    · exact .inl (by omega)
    · exact .inr (by omega)
   · exact .inl rfl
 zero c u v h := by
  rw [namL] at h ⊢
  split
  · next hc => rw [if_pos hc] at h; omega
  · rfl
theorem Cuts.word {α : Type} {m : List UInt8 -> Nat} (N : Nat) (hm : Word m) (g : List UInt8 -> Option α) (e : Int) (he : e ≠ 9) : Cuts N (fun l => if m l = 0 then Go.Proofs.YtkjnkpkagcboeaaGreatDoor.lost l else match g (l.take (m l)) with
  | none => .bad l.length e
  | some v => .ok v (l.drop (m l))) (fun l => if m l = 0 then Go.Proofs.YtkjnkpkagcboeaaGreatDoor.lost l else match g (l.take (m l)) with
  | none => .bad l.length e
  | some v => .ok v (l.drop (m l))) where
 sub l x r _ h := by
  split at h
  · exact (lost_ok h).elim
  ·
   split at h
   · cases h
   · injection h with _ h; rw [<- h, List.length_drop]; omega
 far l k _ h := by
  split at h
  · exact lost_far h
  ·
   split at h
   · injection h with h _; omega
   · cases h
 ok u v x r _ hv h hr := by
  split at h
  · exact (lost_ok h).elim
  ·
   next h0 =>
   split at h
   · cases h
   ·
    next y hy =>
    injection h with h1 h2
    subst h1
    rw [<- h2, List.length_drop, List.length_append] at hr
    have hl : 0 < v.length := List.length_pos_iff.2 hv
    rcases hm.cut u v with hc | hc
    ·
     rw [hc] at h0 hy h2
     have hle := hm.le u
     rw [if_neg h0]
     rw [List.take_append_of_le_length hle] at hy
     rw [List.drop_append_of_le_length hle] at h2
     refine ⟨u.drop (m u), h2.symm, ?_⟩
     rw [hy]
    · omega
 form u v k _ hv h hk := by
  split at h
  ·
   next h0 =>
   have h1 := (lost_cuts (α := α) u v hv).1 k h hk
   cases u with
   | nil =>
    have := lost_far h
    rw [List.nil_append] at this
    omega
   | cons c u =>
    rw [if_pos (hm.zero c u v h0)]
    exact h1
  ·
   split at h
   · injection h with _ h; exact absurd h he
   · cases h
 edge u v _ hv h := by
  split at h
  ·
   next h0 =>
   have h1 := (lost_cuts (α := α) u v hv).2 h
   cases u with
   | nil => rw [if_pos hm.nil]; exact h1
   | cons c u =>
    rw [if_pos (hm.zero c u v h0)]
    exact h1
  ·
   split at h
   · injection h with _ h; exact absurd h he
   · cases h
theorem Cuts.sameN {α : Type} {N : Nat} {G G' H H' : List UInt8 -> Got α} (h : Cuts N G G') (e : ∀ l, l.length < N -> G l = H l) (e' : ∀ l, l.length < N -> G' l = H' l) : Cuts N H H' where
 sub l x r hN k := h.sub l x r hN (by rw [e l hN]; exact k)
 far l k hN c := h.far l k hN (by rw [e l hN]; exact c)
 ok u v x r hN hv k hr := by rw [<- e' u (by rw [List.length_append] at hN; omega)]; exact h.ok u v x r hN hv (by rw [e _ hN]; exact k) hr
 form u v k hN hv c hk := by rw [<- e' u (by rw [List.length_append] at hN; omega)]; exact h.form u v k hN hv (by rw [e _ hN]; exact c) hk
 edge u v hN hv c := by rw [<- e' u (by rw [List.length_append] at hN; omega)]; exact h.edge u v hN hv (by rw [e _ hN]; exact c)
def oneG {α : Type} (m : List UInt8 -> Nat) (g : List UInt8 -> Option α) (e : Int) (l : List UInt8) : Got α := if m l = 0 then lost l else match g (l.take (m l)) with
  | none => .bad l.length e
  | some v => .ok v (l.drop (m l))
theorem oneG_cuts {α : Type} (N : Nat) {m : List UInt8 -> Nat} (hm : Word m) (g : List UInt8 -> Option α) (e : Int) (he : e ≠ 9) : Cuts N (oneG m g e) (oneG m g e) := Cuts.word N hm g e he
theorem numG_word (l : List UInt8) : oneG numL (fun s => if 1000 < s.length then none else some s) 4 l = numG l := by
 unfold numG oneG
 have hl : (l.take (numL l)).length = numL l := by rw [List.length_take]; have := numL_word.le l; omega
 split
 · rfl
 ·
  by_cases h : 1000 < numL l
  · simp only [hl, if_pos h]
  · simp only [hl, if_neg h]
theorem numG_cuts (N : Nat) : Cuts N numG numG := (oneG_cuts N numL_word _ 4 (by decide)).same numG_word numG_word
theorem namG_word (names : List ByteArray) (l : List UInt8) : oneG namL (whoV names) 6 l = namG names l := by
 unfold namG oneG
 split
 · rfl
 · cases whoV names (l.take (namL l)) <;> rfl
theorem namG_cuts (N : Nat) (names : List ByteArray) : Cuts N (namG names) (namG names) := (oneG_cuts N namL_word (whoV names) 6 (by decide)).same (namG_word names) (namG_word names)
theorem powG_cuts (N : Nat) (names : List ByteArray) : Cuts N (powG names) (powG names) := by
 refine Cuts.bnd (namG_cuts N names) fun a b v => ?_
 refine Cuts.look 94 (A := fun l => (numG l).bnd fun d r2 => if 1048576 < decL d then .bad l.length 4 else .ok (v, (decL d : Int)) r2) (A' := fun l => (numG l).bnd fun d r2 => if 1048576 < decL d then .bad l.length 4 else .ok (v, (decL d : Int)) r2) ?_ (Cuts.pure N _)
 refine Cuts.bnd (numG_cuts _) fun a b d => ?_
 exact Cuts.ite _ (Cuts.err _ (fun _ => a.length) (fun _ => b.length) 4 4 (by decide)) (Cuts.pure _ _)
theorem proG_cuts (names : List ByteArray) (F F' : Nat) : ∀ (N n n' : Nat) (m : List Int), N <= n -> N <= n' -> Cuts N (proG names F n m) (proG names F' n' m)
 | 0, _, _, _, _, _ => ⟨fun _ _ _ h => (by omega), fun _ _ h => (by omega), fun _ _ _ _ h => (by omega), fun _ _ _ h => (by omega), fun _ _ h => (by omega)⟩
 | N + 1, n + 1, n' + 1, m, h, h' => by
  have ih := fun m => proG_cuts names F F' N n n' m (by omega) (by omega)
  have := Cuts.bnd (f := fun _ p r => if 1048576 < expAt m p.1 + p.2 then .bad F 4 else if r[0]? = some 42 then proG names F n (putM m p) (r.drop 1) else .ok (putM m p) r)
   (f' := fun _ p r => if 1048576 < expAt m p.1 + p.2 then .bad F' 4 else if r[0]? = some 42 then proG names F' n' (putM m p) (r.drop 1) else .ok (putM m p) r) (powG_cuts (N + 1) names) fun a b p => Cuts.ite _ (Cuts.err _ (fun _ => F) (fun _ => F') 4 4 (by decide)) (Cuts.look 42 (ih _) (Cuts.pure _ _))
  exact this.same (fun l => by rw [proG]) (fun l => by rw [proG])
 | N + 1, 0, _, _, h, _ => by omega
 | N + 1, _, 0, _, _, h => by omega
theorem proG_fuel (names : List ByteArray) (F : Nat) : ∀ (n n' : Nat) (m : List Int) (l : List UInt8), l.length < n -> l.length < n' -> proG names F n m l = proG names F n' m l
 | n + 1, n' + 1, m, l, h, h' => by
  rw [proG, proG]
  cases hp : powG names l with
  | bad k e => rfl
  | ok p r =>
   have hr := (powG_cuts (l.length + 1) names).sub l p r (by omega) hp
   show (if _ then _ else _) = (if _ then _ else _)
   split
   · rfl
   ·
    split
    ·
     next hc =>
     have := head_len hc
     exact proG_fuel names F n n' _ _ (by rw [List.length_drop]; omega) (by rw [List.length_drop]; omega)
    · rfl
 | 0, _, _, _, h, _ => by omega
 | _, 0, _, _, _, h => by omega
theorem monG_cuts (N : Nat) (names : List ByteArray) (F F' : Nat) (q : Rat) : Cuts N (monG names F q) (monG names F' q) := by
 refine Cuts.bnd (G := fun l => proG names F (l.length + 1) zerM l) (G' := fun l => proG names F' (l.length + 1) zerM l) (f := fun _ m r => .ok (q, cutM m) r) (f' := fun _ m r => .ok (q, cutM m) r) ?_ fun a b m => Cuts.pure _ _
 exact (proG_cuts names F F' N N N zerM (nlr _) (nlr _)).sameN (fun l h => proG_fuel names F _ _ _ _ h (by omega)) (fun l h => proG_fuel names F' _ _ _ _ h (by omega))
theorem cofG_cuts (N : Nat) : Cuts N cofG cofG := by
 refine Cuts.bnd (numG_cuts N) fun a b p => ?_
 refine Cuts.look 47 (A := fun l => (numG l).bnd fun q r2 => if decL q = 0 then .bad l.length 3 else .ok (qv false (decL p) (decL q)) r2) (A' := fun l => (numG l).bnd fun q r2 => if decL q = 0 then .bad l.length 3 else .ok (qv false (decL p) (decL q)) r2) ?_ (Cuts.pure N _)
 refine Cuts.bnd (numG_cuts _) fun a b d => ?_
 exact Cuts.ite _ (Cuts.err _ (fun _ => a.length) (fun _ => b.length) 3 3 (by decide)) (Cuts.pure _ _)
theorem numG_eats {l : List UInt8} (h : numL l ≠ 0) : (∀ d r, numG l = .ok d r -> r.length < l.length) /\ ∀ k, numG l ≠ .bad k 9 := by
 have hle := numL_word.le l
 unfold numG
 rw [if_neg h]
 constructor
 ·
  intro d r e
  split at e
  · cases e
  · injection e with _ e; rw [<- e, List.length_drop]; omega
 ·
  intro k e
  split at e
  · injection e with _ e; exact absurd e (by decide)
  · cases e
theorem cofG_eats {l : List UInt8} (h : numL l ≠ 0) : (∀ q r, cofG l = .ok q r -> r.length < l.length) /\ ∀ k, cofG l = .bad k 9 -> k < l.length := by
 obtain ⟨h1, h2⟩ := numG_eats h
 have hk : ∀ p : List UInt8, Cuts (l.length + 1) (fun r => if r[0]? = some 47 then (numG (r.drop 1)).bnd fun q r2 => if decL q = 0 then (.bad (r.drop 1).length 3 : Got Rat) else .ok (qv false (decL p) (decL q)) r2 else .ok (qv false (decL p) 1) r) (fun r => if r[0]? = some 47 then (numG (r.drop 1)).bnd fun q r2 => if decL q = 0 then (.bad (r.drop 1).length 3 : Got Rat) else .ok (qv false (decL p) (decL q)) r2 else .ok (qv false (decL p) 1) r) := fun p => by
  refine Cuts.look 47 (A := fun l => (numG l).bnd fun q r2 => if decL q = 0 then .bad l.length 3 else .ok (qv false (decL p) (decL q)) r2) (A' := fun l => (numG l).bnd fun q r2 => if decL q = 0 then .bad l.length 3 else .ok (qv false (decL p) (decL q)) r2) ?_ (Cuts.pure _ _)
  refine Cuts.bnd (numG_cuts _) fun a b d => ?_
  exact Cuts.ite _ (Cuts.err _ (fun _ => a.length) (fun _ => b.length) 3 3 (by decide)) (Cuts.pure _ _)
 unfold cofG
 cases hn : numG l with
 | bad k e =>
  refine ⟨fun q r c => (by cases c), fun k' c => ?_⟩
  injection c with c1 c2
  subst c2
  exact (h2 k hn).elim
 | ok p s =>
  have hs := h1 p s hn
  exact ⟨fun q r c => Nat.lt_of_le_of_lt ((hk p).sub s q r (by omega) c) hs, fun k c => Nat.lt_of_le_of_lt ((hk p).far s k (by omega) c) hs⟩
theorem terG_cuts (N : Nat) (names : List ByteArray) : Cuts N (terG names) (terG names) := by
 have hk : ∀ (a b : List UInt8) (q : Rat), Cuts N (fun r => if r[0]? = some 42 then monG names a.length q (r.drop 1) else .ok (q, []) r) (fun r => if r[0]? = some 42 then monG names b.length q (r.drop 1) else .ok (q, []) r) := fun a b q => Cuts.look 42 (monG_cuts _ names _ _ q) (Cuts.pure _ _)
 have hA := Cuts.bnd (f := fun l q r => if r[0]? = some 42 then monG names l.length q (r.drop 1) else .ok (q, []) r) (f' := fun l q r => if r[0]? = some 42 then monG names l.length q (r.drop 1) else .ok (q, []) r) (cofG_cuts N) hk
 have hB : Cuts N (fun l => monG names l.length 1 l) (fun l => monG names l.length 1 l) := by
  have := Cuts.bnd (G := fun l => .ok () l) (G' := fun l => .ok () l) (f := fun l _ r => monG names l.length 1 r) (f' := fun l _ r => monG names l.length 1 r) (Cuts.pure N ()) fun a b _ => monG_cuts N names a.length b.length 1
  exact this
 have := Cuts.pick (p := fun l => numL l ≠ 0) (A := fun l => (cofG l).bnd fun q r => if r[0]? = some 42 then monG names l.length q (r.drop 1) else .ok (q, []) r) (A' := fun l => (cofG l).bnd fun q r => if r[0]? = some 42 then monG names l.length q (r.drop 1) else .ok (q, []) r)
  (fun c u v => ?_) (fun h => h rfl) (fun l x r hN hp e => ?_) (fun l k hN hp e => ?_) (fun u v x r hN hv _ e hr => hA.ok u v x r hN hv e hr) (fun u v k hN hv _ e hk => hA.form u v k hN hv e hk) (fun u v hN hv _ e => hA.edge u v hN hv e) hB
 ·
  refine this.same (fun l => ?_) (fun l => ?_) <;>
  ·
   unfold terG
   by_cases h : numL l = 0
   · rw [if_pos h, if_neg (fun c => c h)]
   · rw [if_neg h, if_pos h]
 ·
  have e : numL (c :: (u ++ v)) = 0 ↔ numL (c :: u) = 0 := by
   refine ⟨numL_word.zero c u v, fun h => ?_⟩
   rw [numL] at h ⊢
   split
   ·
    next hc =>
    rw [if_pos hc] at h
    split at h <;> omega
   · rfl
  exact not_congr e
 ·
  obtain ⟨h1, h2⟩ := cofG_eats hp
  cases hc : cofG l with
  | bad k e' => rw [hc] at e; cases e
  | ok q s =>
   rw [hc] at e
   have h3 := h1 q s hc
   exact Nat.lt_of_le_of_lt ((hk l l q).sub s x r (by omega) e) h3
 ·
  obtain ⟨h1, h2⟩ := cofG_eats hp
  cases hc : cofG l with
  | bad k' e' =>
   rw [hc] at e
   have : k' = k /\ e' = 9 := by injection e with a b; exact ⟨a, b⟩
   obtain ⟨rfl, rfl⟩ := this
   exact h2 k' hc
  | ok q s =>
   rw [hc] at e
   have h3 := h1 q s hc
   exact Nat.lt_of_le_of_lt ((hk l l q).far s k (by omega) e) h3
theorem eatG_cuts (N : Nat) (c : UInt8) : Cuts N (eatG c) (eatG c) := Cuts.look c (A := fun l => .ok () l) (A' := fun l => .ok () l) (Cuts.pure _ _) (Cuts.lost N)
theorem eatG_less {c : UInt8} {l r : List UInt8} {x : Unit} (h : eatG c l = .ok x r) : r.length < l.length := by
 unfold eatG at h
 split at h
 ·
  next hc =>
  have := head_len hc
  injection h with _ h; rw [<- h, List.length_drop]; omega
 · exact (lost_ok h).elim
theorem sepG_less {l r : List UInt8} {ng : Bool} (h : sepG l = .ok ng r) : r.length < l.length := by
 unfold sepG at h
 cases h1 : eatG 32 l with
 | bad k e => rw [h1] at h; cases h
 | ok x s =>
  rw [h1] at h
  have h2 := eatG_less h1
  have hk : Cuts (l.length + 1) (fun r => if r[0]? = some 45 then (eatG 32 (r.drop 1)).bnd fun _ r' => (.ok true r' : Got Bool) else (eatG 43 r).bnd fun _ r1 => (eatG 32 r1).bnd fun _ r2 => .ok false r2) (fun r => if r[0]? = some 45 then (eatG 32 (r.drop 1)).bnd fun _ r' => (.ok true r' : Got Bool) else (eatG 43 r).bnd fun _ r1 => (eatG 32 r1).bnd fun _ r2 => .ok false r2) := by
   refine Cuts.look 45 (A := fun l => (eatG 32 l).bnd fun _ r' => .ok true r') (A' := fun l => (eatG 32 l).bnd fun _ r' => .ok true r') (Cuts.bnd (eatG_cuts _ 32) fun a b _ => Cuts.pure _ _) ?_
   exact Cuts.bnd (eatG_cuts _ 43) fun a b _ => Cuts.bnd (eatG_cuts _ 32) fun a b _ => Cuts.pure _ _
  exact Nat.lt_of_le_of_lt (hk.sub s ng r (by omega) h) h2
def Fine {α : Type} (N : Nat) (g : Got α) : Prop := ∀ k e, g = .bad k e -> k <= N /\ (e = 9 -> 0 < k) /\ (e = 10 -> k = 0) /\ e ≠ 0
theorem Fine.mono {α : Type} {N M : Nat} {g : Got α} (h : Fine N g) (hN : N <= M) : Fine M g := fun k e hk => ⟨Nat.le_trans (h k e hk).1 hN, (h k e hk).2⟩
theorem Fine.okk {α : Type} (N : Nat) (x : α) (r : List UInt8) : Fine N (.ok x r) := fun _ _ h => by cases h
theorem Fine.err {α : Type} {N k : Nat} {e : Int} (hk : k <= N) (h9 : e ≠ 9) (h10 : e ≠ 10) (h0 : e ≠ 0 := by decide) : Fine N (.bad k e : Got α) := fun k' e' h => by
 injection h with a b
 subst a b
 exact ⟨hk, fun c => absurd c h9, fun c => absurd c h10, h0⟩
theorem Fine.lost {α : Type} (l : List UInt8) : Fine l.length (Go.Proofs.YtkjnkpkagcboeaaGreatDoor.lost l : Got α) := fun k e h => by
 unfold Go.Proofs.YtkjnkpkagcboeaaGreatDoor.lost at h
 split at h
 ·
  injection h with a b
  subst a b
  exact ⟨Nat.zero_le _, fun c => absurd c (by decide), fun _ => rfl, by decide⟩
 ·
  injection h with a b
  subst a b
  exact ⟨nlr _, fun _ => by omega, fun c => absurd c (by decide), by decide⟩
theorem Fine.bnd {α β : Type} {N : Nat} {g : Got α} {f : α -> List UInt8 -> Got β} (hg : Fine N g) (hf : ∀ x r, g = .ok x r -> Fine N (f x r)) : Fine N (g.bnd f) := fun k e h => by
 cases hc : g with
 | ok x r => rw [hc] at h; exact hf x r hc k e h
 | bad k' e' =>
  rw [hc] at h
  have : k' = k /\ e' = e := by injection h with a b; exact ⟨a, b⟩
  obtain ⟨rfl, rfl⟩ := this
  exact hg k' e' hc
theorem Fine.ite {α : Type} {N : Nat} {p : Prop} [Decidable p] {a b : Got α} (ha : p -> Fine N a) (hb : ¬ p -> Fine N b) : Fine N (if p then a else b) := by
 split
 · next h => exact ha h
 · next h => exact hb h
theorem drop_le1 (r : List UInt8) : (r.drop 1).length <= r.length := by rw [List.length_drop]; omega
theorem numG_fine (l : List UInt8) : Fine l.length (numG l) := by
 unfold numG
 exact Fine.ite (fun _ => Fine.lost l) fun _ => Fine.ite (fun _ => Fine.err (nlr _) (by decide) (by decide)) fun _ => Fine.okk _ _ _
theorem namG_fine (names : List ByteArray) (l : List UInt8) : Fine l.length (namG names l) := by
 unfold namG
 refine Fine.ite (fun _ => Fine.lost l) fun _ => ?_
 split
 · exact Fine.err (nlr _) (by decide) (by decide)
 · exact Fine.okk _ _ _
theorem powG_fine (names : List ByteArray) (l : List UInt8) : Fine l.length (powG names l) := by
 unfold powG
 refine Fine.bnd (namG_fine names l) fun v r hr => ?_
 have h1 := (namG_cuts (l.length + 1) names).sub l v r (by omega) hr
 have h2 := drop_le1 r
 refine Fine.ite (fun _ => ?_) fun _ => Fine.okk _ _ _
 refine Fine.bnd ((numG_fine _).mono (by omega)) fun d s _ => ?_
 exact Fine.ite (fun _ => Fine.err (by omega) (by decide) (by decide)) fun _ => Fine.okk _ _ _
theorem proG_fine (names : List ByteArray) (F M : Nat) (hF : F <= M) : ∀ (n : Nat) (m : List Int) (l : List UInt8), l.length <= M -> Fine M (proG names F n m l)
 | 0, m, l, h => by rw [proG]; exact Fine.err (Nat.zero_le _) (by decide) (by decide)
 | n + 1, m, l, h => by
  rw [proG]
  refine Fine.bnd ((powG_fine names l).mono h) fun p r hr => ?_
  have h1 := (powG_cuts (l.length + 1) names).sub l p r (by omega) hr
  have h2 := drop_le1 r
  refine Fine.ite (fun _ => Fine.err hF (by decide) (by decide)) fun _ => Fine.ite (fun _ => proG_fine names F M hF n _ _ (by omega)) fun _ => Fine.okk _ _ _
theorem monG_fine (names : List ByteArray) (F M : Nat) (hF : F <= M) (q : Rat) (l : List UInt8) (h : l.length <= M) : Fine M (monG names F q l) := by
 unfold monG
 exact Fine.bnd (proG_fine names F M hF _ _ l h) fun _ _ _ => Fine.okk _ _ _
theorem cofG_fine (l : List UInt8) : Fine l.length (cofG l) := by
 unfold cofG
 refine Fine.bnd (numG_fine l) fun p r hr => ?_
 have h1 := (numG_cuts (l.length + 1)).sub l p r (by omega) hr
 have h2 := drop_le1 r
 refine Fine.ite (fun _ => ?_) fun _ => Fine.okk _ _ _
 refine Fine.bnd ((numG_fine _).mono (by omega)) fun d s _ => ?_
 exact Fine.ite (fun _ => Fine.err (by omega) (by decide) (by decide)) fun _ => Fine.okk _ _ _
theorem terG_fine (names : List ByteArray) (l : List UInt8) : Fine l.length (terG names l) := by
 unfold terG
 refine Fine.ite (fun _ => monG_fine names _ _ (nlr _) _ _ (nlr _)) fun _ => ?_
 refine Fine.bnd (cofG_fine l) fun q r hr => ?_
 have h1 := (cofG_cuts (l.length + 1)).sub l q r (by omega) hr
 have h2 := drop_le1 r
 exact Fine.ite (fun _ => monG_fine names _ _ (nlr _) _ _ (by omega)) fun _ => Fine.okk _ _ _
theorem eatG_fine (c : UInt8) (l : List UInt8) : Fine l.length (eatG c l) := by
 unfold eatG
 exact Fine.ite (fun _ => Fine.okk _ _ _) fun _ => Fine.lost l
theorem sepG_fine (l : List UInt8) : Fine l.length (sepG l) := by
 unfold sepG
 refine Fine.bnd (eatG_fine 32 l) fun _ r hr => ?_
 have h1 := eatG_less hr
 have h2 := drop_le1 r
 refine Fine.ite (fun _ => Fine.bnd ((eatG_fine 32 _).mono (by omega)) fun _ _ _ => Fine.okk _ _ _) fun _ => ?_
 refine Fine.bnd ((eatG_fine 43 _).mono (by omega)) fun _ r1 hr1 => ?_
 have h3 := eatG_less hr1
 exact Fine.bnd ((eatG_fine 32 _).mono (by omega)) fun _ _ _ => Fine.okk _ _ _
theorem sumG_fine (names : List ByteArray) (M : Nat) : ∀ (f : Nat) (neg : Bool) (acc : List (Rat × List Int)) (l : List UInt8), l.length <= M -> Fine M (sumG names f neg acc l)
 | 0, _, _, l, _ => by rw [sumG]; exact Fine.err (Nat.zero_le _) (by decide) (by decide)
 | f + 1, neg, acc, l, h => by
  rw [sumG]
  refine Fine.ite (fun _ => Fine.err h (by decide) (by decide)) fun _ => ?_
  refine Fine.bnd ((terG_fine names l).mono h) fun t r hr => ?_
  have h1 := (terG_cuts (l.length + 1) names).sub l t r (by omega) hr
  refine Fine.ite (fun _ => Fine.okk _ _ _) fun _ => ?_
  refine Fine.bnd ((sepG_fine r).mono (by omega)) fun ng s hs => ?_
  have h2 := sepG_less hs
  exact sumG_fine names M f ng _ s (by omega)
theorem reaG_fine (names : List ByteArray) (l : List UInt8) : Fine l.length (reaG names l) := by
 unfold reaG
 exact Fine.ite (fun _ => sumG_fine names _ _ _ _ _ (drop_le1 l)) fun _ => sumG_fine names _ _ _ _ _ (nlr _)
def tl (s : ByteArray) (a : Nat) : List UInt8 := s.data.toList.drop a
theorem tl_len (s : ByteArray) (a : Nat) : (tl s a).length = s.size - a := by simp [tl]
theorem tl_at {s : ByteArray} {a : Nat} (h : a < s.size) : tl s a = s[a] :: tl s (a + 1) := by
 unfold tl
 rw [List.drop_eq_getElem_cons (by simpa using h)]
 rfl
theorem tl_end {s : ByteArray} {a : Nat} (h : s.size <= a) : tl s a = [] := List.eq_nil_of_length_eq_zero (by rw [tl_len]; omega)
theorem tl_drop (s : ByteArray) (a k : Nat) : (tl s a).drop k = tl s (a + k) := by unfold tl; rw [List.drop_drop]
theorem tl_all (s : ByteArray) : tl s 0 = s.data.toList := by simp [tl]
def nxtB (l : List UInt8) (c : Int) : Bool := match l[0]? with
 | some x => decide ((x.toNat : Int) = c)
 | none => false
theorem nxtB_is (l : List UInt8) (c : UInt8) {z : Int} (hz : (c.toNat : Int) = z) : nxtB l z = decide (l[0]? = some c) := by
 subst hz
 unfold nxtB
 cases l[0]? with
 | none => simp
 | some x =>
  simp only [Option.some.injEq]
  rw [decide_eq_decide]
  constructor
  · intro h; exact UInt8.toNat_inj.1 (by omega)
  · intro h; rw [h]
theorem nxtB_at {s : ByteArray} {a : Nat} (h : a < s.size) (c : Int) : nxtB (tl s a) c = decide (((s[a]'h).toNat : Int) = c) := by rw [tl_at h]; rfl
theorem nxtB_end {s : ByteArray} {a : Nat} (h : s.size <= a) (c : Int) : nxtB (tl s a) c = false := by rw [tl_end h]; rfl
def RdA (w : World) (g : Nat) (s : ByteArray) (mb a : Nat) (e b : Int) : Prop := Blk w g 73 #[.string s, .int .i64 a, .map (some mb), .int .i64 e, .int .i64 b]
def StR (w : World) (g : Nat) (s : ByteArray) (mb : Nat) (l : List UInt8) : Prop := ∃ a : Nat, a <= s.size /\ l = tl s a /\ RdA w g s mb a 0 0
def StE (w : World) (g : Nat) (s : ByteArray) (mb : Nat) (k : Nat) (e : Int) : Prop := ∃ a : Nat, a <= s.size /\ k <= s.size /\ e ≠ 0 /\ RdA w g s mb a e ((s.size - k : Nat) : Int)
def StG {α : Type} (w : World) (g : Nat) (s : ByteArray) (mb : Nat) (G : Got α) : Prop := match G with
 | .ok _ r => StR w g s mb r
 | .bad k e => StE w g s mb k e
section
variable {w w' : World} {g mb a : Nat} {s : ByteArray} {e b : Int}
theorem RdA.below (h : RdA w g s mb a e b) (hb : Below w.heap.size w w') : RdA w' g s mb a e b := Blk.below' h hb
theorem RdA.lt (h : RdA w g s mb a e b) : g < w.heap.size := Blk.lt h
theorem RdA.set1 (h : RdA w g s mb a e b) (a' : Nat) : RdA (w.setCell ⟨g, 1, none⟩ (.int .i64 a')) g s mb a' e b := bS h rfl
theorem RdA.set34 (h : RdA w g s mb a e b) (e' b' : Int) : RdA ((w.setCell ⟨g, 3, none⟩ (.int .i64 e')).setCell ⟨g, 4, none⟩ (.int .i64 b')) g s mb a e' b' := bS (bS h rfl) rfl
theorem StE.below {k : Nat} {e : Int} (h : StE w g s mb k e) (hb : Below w.heap.size w w') : StE w' g s mb k e := by obtain ⟨a, h1, h2, h3, h4⟩ := h; exact ⟨a, h1, h2, h3, h4.below hb⟩
end
abbrev Fg (g : Nat) (w w' : World) : Prop := Fr (fun b => b = g) w w'
theorem peek_any (g mb a : Nat) (s : ByteArray) (e b c : Int) (w : World) (h : RdA w g s mb a e b) (ha : a <= s.size) (hs : s.size <= 281474976710656) :
  Calls Tryz.prog 69 #[.pointer (some ⟨g, 0, none⟩), .int .u8 c] w fun e w' => e = .returned (.bool (nxtB (tl s a) c)) /\ Below w.heap.size w w' := by
 have z0 := Blk.cell h 0; have z1 := Blk.cell h 1; have z2 := Blk.cell h 2; have z3 := Blk.cell h 3; have z4 := Blk.cell h 4
 have hl := h.lt
 have hbd : Below w.heap.size w w.drew := brf.drew
 by_cases hlt : a < s.size
 ·
  have hn := nxtB_at hlt c
  rw [hn]
  clear hn h
  obtain ⟨y, hy⟩ : ∃ y : Nat, (s[a]'hlt).toNat = y := ⟨_, rfl⟩
  rw [hy]
  by_cases hyc : (y : Int) = c
  ·
   have hyb : ((y : Int) == c) = true := by simpa using hyc
   rw [decide_eq_true hyc]
   clear hyc
   go_enter Tryz.func69, Tryz.ntmps69
   go_wp2
   refine wp_region_mix (S := (fun x => x = w.drew)) [(0, .q), (1, .q), (2, .q), (3, .q), (4, .q), (5, .q), (6, .q), (7, .q), (8, .q), (9, .q), (10, .q), (11, .q), (12, .q), (13, .q), (14, .q), (15, .q), (16, .q), (17, .q), (18, .q), (19, .q), (20, .q), (21, .p), (22, .p), (23, .p)] (by kernel_rfl) (by kernel_rfl) (by kernel_rfl) (fun d _ _ _ _ h => by cases d <;> exact h) (rfl) ?_
   iterate 21 (refine wpMix_q rfl rfl (fun K hK => ?_); apply Exists.intro; refine ⟨fun w' hw' => ?_, ?_⟩; (focus (go_simp; try rfl)); go_simp; refine hK _ _ ?_; clear hK K)
   iterate 3 (refine wpMix_p rfl rfl (fun K hK => ?_); apply Exists.intro; refine ⟨fun w' => ?_, ?_⟩; (focus (go_simp; try rfl)); go_simp; refine hK _ _ ?_; clear hK K)
   refine wpMix_nil ?_
   go_wp2
   go_ret
   exact ⟨rfl, hbd⟩
  ·
   have hyb : ((y : Int) == c) = false := by simpa using hyc
   rw [decide_eq_false hyc]
   clear hyc
   go_enter Tryz.func69, Tryz.ntmps69
   go_wp2
   refine wp_region_mix (S := (fun x => x = w.drew)) [(0, .q), (1, .q), (2, .q), (3, .q), (4, .q), (5, .q), (6, .q), (7, .q), (8, .q), (9, .q), (10, .q), (11, .q), (12, .q), (13, .q), (14, .q), (15, .q), (16, .q), (17, .q), (18, .q), (19, .q), (20, .q), (21, .p), (22, .p), (23, .p)] (by kernel_rfl) (by kernel_rfl) (by kernel_rfl) (fun d _ _ _ _ h => by cases d <;> exact h) (rfl) ?_
   iterate 21 (refine wpMix_q rfl rfl (fun K hK => ?_); apply Exists.intro; refine ⟨fun w' hw' => ?_, ?_⟩; (focus (go_simp; try rfl)); go_simp; refine hK _ _ ?_; clear hK K)
   iterate 3 (refine wpMix_p rfl rfl (fun K hK => ?_); apply Exists.intro; refine ⟨fun w' => ?_, ?_⟩; (focus (go_simp; try rfl)); go_simp; refine hK _ _ ?_; clear hK K)
   refine wpMix_nil ?_
   go_wp2
   go_ret
   exact ⟨rfl, hbd⟩
 ·
  rw [nxtB_end (by omega)]
  clear h
  go_enter Tryz.func69, Tryz.ntmps69
  go_wp2
  refine wp_region_mix (S := (fun x => x = w.drew)) [(0, .q), (1, .q), (2, .q), (3, .q), (4, .q), (5, .q), (6, .q), (7, .q), (8, .q), (9, .q), (10, .q), (11, .q), (12, .q), (13, .q), (14, .q), (15, .q), (16, .q), (17, .q), (18, .q), (19, .q), (20, .q), (21, .p), (22, .p), (23, .p)] (by kernel_rfl) (by kernel_rfl) (by kernel_rfl) (fun d _ _ _ _ h => by cases d <;> exact h) (rfl) ?_
  iterate 11 (refine wpMix_q rfl rfl (fun K hK => ?_); apply Exists.intro; refine ⟨fun w' hw' => ?_, ?_⟩; (focus (go_simp; try rfl)); go_simp; refine hK _ _ ?_; clear hK K)
  iterate 11 (refine wpMix_skip rfl rfl (fun K hK => ?_); go_simp; refine hK _ _ ?_; clear hK K)
  iterate 2 (refine wpMix_p rfl rfl (fun K hK => ?_); apply Exists.intro; refine ⟨fun w' => ?_, ?_⟩; (focus (go_simp; try rfl)); go_simp; refine hK _ _ ?_; clear hK K)
  refine wpMix_nil ?_
  go_wp2
  go_ret
  exact ⟨rfl, hbd⟩
theorem fail_any (g mb a : Nat) (s : ByteArray) (e x : Int) (w : World) (h : RdA w g s mb a 0 0) :
  Calls Tryz.prog 70 #[.pointer (some ⟨g, 0, none⟩), .int .i64 x, .int .i64 e] w fun u w' => u = .returned (.tuple #[]) /\ RdA w' g s mb a e x /\ Fg g w w' := by
 have z0 := Blk.cell h 0; have z1 := Blk.cell h 1; have z2 := Blk.cell h 2; have z3 := Blk.cell h 3; have z4 := Blk.cell h 4
 have hl := h.lt
 have f3 := Blk.frozen h 3; have f4 := Blk.frozen h 4
 have hF := Hd (h.set34 e x)
 have hG := Hd (((Fr.refl (fun b => b = g) w).setc (g := g) (i := 3) (u := .int .i64 e) (.inl rfl)).setc (g := g) (i := 4) (u := .int .i64 x) (.inl rfl))
 clear h
 go_enter Tryz.func70, Tryz.ntmps70
 go_wp2
 first | go_end0 | ((try simp only [Exit.inBlock, Exit.then]); refine bodyPost_ret (results_none rfl _ _ _) rfl ?_)
 exact ⟨rfl, hF.out, hG.out⟩
theorem fail_no (g mb a : Nat) (s : ByteArray) (e0 b e x : Int) (w : World) (h : RdA w g s mb a e0 b) (h0 : e0 ≠ 0) :
  Calls Tryz.prog 70 #[.pointer (some ⟨g, 0, none⟩), .int .i64 x, .int .i64 e] w fun u w' => u = .returned (.tuple #[]) /\ w = w' := by
 have z0 := Blk.cell h 0; have z1 := Blk.cell h 1; have z2 := Blk.cell h 2; have z3 := Blk.cell h 3; have z4 := Blk.cell h 4
 have hl := h.lt
 have hz : (e0 == 0) = false := by simpa using h0
 clear h
 go_enter Tryz.func70, Tryz.ntmps70
 go_wp2
 first | go_end0 | ((try simp only [Exit.inBlock, Exit.then]); refine bodyPost_ret (results_none rfl _ _ _) rfl ?_)
 exact ⟨rfl, rfl⟩
theorem refuse_any (g mb a : Nat) (s : ByteArray) (w : World) (h : RdA w g s mb a 0 0) (ha : a <= s.size) (hs : s.size <= 281474976710656) :
  Calls Tryz.prog 121 #[.pointer (some ⟨g, 0, none⟩)] w fun u w' => u = .returned (.tuple #[]) /\ StG w' g s mb (lost (α := Unit) (tl s a)) /\ Fg g w w' := by
 have z0 := Blk.cell h 0; have z1 := Blk.cell h 1; have z2 := Blk.cell h 2; have z3 := Blk.cell h 3; have z4 := Blk.cell h 4
 have hl := h.lt
 have C := fun e => fail_any g mb a s e (a : Int) w.drew h
 have hbd : Fg g w w.drew := Fr.below (brf.drew)
 replace C := Hd C; replace hbd := Hd hbd
 clear h
 by_cases hlt : a = s.size
 ·
  have hb : ((a : Int) == (s.size : Int)) = true := by rw [beq_iff_eq]; omega
  have hL : lost (α := Unit) (tl s a) = .bad 0 10 := by rw [tl_end (by omega)]; rfl
  rw [hL]
  replace hlt := Hd hlt
  go_enter Tryz.func121, Tryz.ntmps121
  go_wp2
  refine wp_region_mix (S := (fun x => x = w.drew)) [(0, .q), (1, .q), (2, .q), (3, .q), (4, .q), (5, .q), (6, .q), (7, .q), (8, .q), (9, .p)] (by kernel_rfl) (by kernel_rfl) (by kernel_rfl) (fun d _ _ _ _ h => by cases d <;> exact h) (rfl) ?_
  iterate 9 (refine wpMix_q rfl rfl (fun K hK => ?_); apply Exists.intro; refine ⟨fun w' hw' => ?_, ?_⟩; (focus (go_simp; try rfl)); go_simp; refine hK _ _ ?_; clear hK K)
  iterate 1 (refine wpMix_p rfl rfl (fun K hK => ?_); apply Exists.intro; refine ⟨fun w' => ?_, ?_⟩; (focus (go_simp; try rfl)); go_simp; refine hK _ _ ?_; clear hK K)
  refine wpMix_nil ?_
  go_wp2_with fail
  refine (C.out 10).mono ?_
  rintro e w1 ⟨rfl, h1, hf⟩
  go_wp2
  first | go_end0 | ((try simp only [Exit.inBlock, Exit.then]); refine bodyPost_ret (results_none rfl _ _ _) rfl ?_)
  exact ⟨rfl, ⟨a, ha, by omega, by decide, by rw [Nat.sub_zero, <- hlt.out]; exact h1⟩, hbd.out.trans hf⟩
 ·
  have hb : ((a : Int) == (s.size : Int)) = false := by rw [beq_eq_false_iff_ne]; omega
  have hL : lost (α := Unit) (tl s a) = .bad (s.size - a) 9 := by unfold lost; rw [if_neg (by rw [tl_len]; omega), tl_len]
  rw [hL]
  replace hlt := Hd hlt
  go_enter Tryz.func121, Tryz.ntmps121
  go_wp2
  refine wp_region_mix (S := (fun x => x = w.drew)) [(0, .q), (1, .q), (2, .q), (3, .q), (4, .q), (5, .q), (6, .q), (7, .q), (8, .q), (9, .p)] (by kernel_rfl) (by kernel_rfl) (by kernel_rfl) (fun d _ _ _ _ h => by cases d <;> exact h) (rfl) ?_
  iterate 9 (refine wpMix_q rfl rfl (fun K hK => ?_); apply Exists.intro; refine ⟨fun w' hw' => ?_, ?_⟩; (focus (go_simp; try rfl)); go_simp; refine hK _ _ ?_; clear hK K)
  iterate 1 (refine wpMix_p rfl rfl (fun K hK => ?_); apply Exists.intro; refine ⟨fun w' => ?_, ?_⟩; (focus (go_simp; try rfl)); go_simp; refine hK _ _ ?_; clear hK K)
  refine wpMix_nil ?_
  go_wp2_with fail
  refine (C.out 9).mono ?_
  rintro e w1 ⟨rfl, h1, hf⟩
  go_wp2
  first | go_end0 | ((try simp only [Exit.inBlock, Exit.then]); refine bodyPost_ret (results_none rfl _ _ _) rfl ?_)
  exact ⟨rfl, ⟨a, ha, by omega, by decide, by rw [show s.size - (s.size - a) = a by omega]; exact h1⟩, hbd.out.trans hf⟩
theorem lost_unit {α β : Type} {w : World} {g mb : Nat} {s : ByteArray} {l : List UInt8} (h : StG w g s mb (lost (α := α) l)) : StG w g s mb (lost (α := β) l) := by
 unfold lost at h ⊢
 split <;> simp_all [StG]
theorem take_any (g mb a : Nat) (s : ByteArray) (c : UInt8) (z : Int) (hz : (c.toNat : Int) = z) (w : World) (h : RdA w g s mb a 0 0) (ha : a <= s.size) (hs : s.size <= 281474976710656) :
  Calls Tryz.prog 73 #[.pointer (some ⟨g, 0, none⟩), .int .u8 z] w fun u w' => u = .returned (.tuple #[]) /\ StG w' g s mb (eatG c (tl s a)) /\ Fg g w w' := by
 have z0 := Blk.cell h 0; have z1 := Blk.cell h 1; have z2 := Blk.cell h 2; have z3 := Blk.cell h 3; have z4 := Blk.cell h 4
 have hl := h.lt
 have f1 := Blk.frozen h 1
 have CP := peek_any g mb a s 0 0 z w h ha hs
 have CR := fun W (hW : Below w.heap.size w W) => refuse_any g mb a s W (h.below hW) ha hs
 have hne := nxtB_is (tl s a) c hz
 replace CR := Hd CR
 obtain ⟨bp, hbp⟩ : ∃ b, nxtB (tl s a) z = b := ⟨_, rfl⟩
 rw [hbp] at CP hne
 replace CP := Hd CP
 cases bp
 ·
  have hE : eatG c (tl s a) = lost (tl s a) := by unfold eatG; rw [if_neg (by simpa using hne.symm)]
  rw [hE]
  clear h hbp hne hE hz
  go_enter Tryz.func73, Tryz.ntmps73
  go_wp2_with fail
  refine CP.out.mono ?_
  rintro e w0 ⟨rfl, hb0⟩
  go_wp2_with fail
  refine (CR.out w0 hb0).mono ?_
  rintro e w1 ⟨rfl, h1, hf⟩
  go_wp2
  first | go_end0 | ((try simp only [Exit.inBlock, Exit.then]); refine bodyPost_ret (results_none rfl _ _ _) rfl ?_)
  exact ⟨rfl, lost_unit h1, (Fr.below hb0).trans hf⟩
 ·
  have hn0 : (tl s a)[0]? = some c := by simpa using hne.symm
  have hlt : a < s.size := by
   apply Nat.lt_of_not_le
   intro hle
   rw [tl_end hle] at hn0
   cases hn0
  have hE : eatG c (tl s a) = .ok () (tl s (a + 1)) := by unfold eatG; rw [if_pos hn0, tl_drop]
  rw [hE]
  have hcast : ((a + 1 : Nat) : Int) = (a : Int) + 1 := by omega
  have HH := Hd h
  clear h hbp hne hE hz hn0 z0 z1 z2 z4 f1 hl CR
  go_enter Tryz.func73, Tryz.ntmps73
  go_wp2_with fail
  refine CP.out.mono ?_
  rintro e w1 ⟨rfl, hb1⟩
  have h1 := HH.out.below hb1
  have z0 := Blk.cell h1 0; have z1 := Blk.cell h1 1; have z2 := Blk.cell h1 2; have z3 := Blk.cell h1 3; have z4 := Blk.cell h1 4
  have hl := h1.lt
  have f1 := Blk.frozen h1 1
  have hF := Hd (h1.set1 (a + 1))
  have hG := Hd ((Fr.below (Y := fun b => b = g) hb1).setc (g := g) (i := 1) (u := .int .i64 ((a + 1 : Nat) : Int)) (.inl rfl))
  rw [hcast] at hG
  unfold RdA at hF
  rw [hcast] at hF
  clear h1 hb1
  go_wp2
  first | go_end0 | ((try simp only [Exit.inBlock, Exit.then]); refine bodyPost_ret (results_none rfl _ _ _) rfl ?_)
  exact ⟨rfl, ⟨a + 1, by omega, rfl, by unfold RdA; rw [hcast]; exact hF.out⟩, hG.out⟩
theorem take_no (g mb a : Nat) (s : ByteArray) (z e0 b : Int) (w : World) (h : RdA w g s mb a e0 b) (h0 : e0 ≠ 0) :
  Calls Tryz.prog 73 #[.pointer (some ⟨g, 0, none⟩), .int .u8 z] w fun u w' => u = .returned (.tuple #[]) /\ w = w' := by
 have z0 := Blk.cell h 0; have z1 := Blk.cell h 1; have z2 := Blk.cell h 2; have z3 := Blk.cell h 3; have z4 := Blk.cell h 4
 have hl := h.lt
 have hz : (e0 != 0) = true := by simpa using h0
 clear h
 go_enter Tryz.func73, Tryz.ntmps73
 go_wp2
 first | go_end0 | ((try simp only [Exit.inBlock, Exit.then]); refine bodyPost_ret (results_none rfl _ _ _) rfl ?_)
 exact ⟨rfl, rfl⟩
end Go.Proofs.YtkjnkpkagcboeaaGreatDoor
