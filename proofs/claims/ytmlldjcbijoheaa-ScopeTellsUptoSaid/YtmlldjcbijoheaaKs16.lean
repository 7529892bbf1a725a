/- Walks: the functions that scope.Depends hands to slices.IndexFunc and slices.ContainsFunc. -/
import Derived.Test.YtmlldjcbijoheaaKs15
import Derived.Test.YtmlldjcbijoheaaKs7

/- Walk: R19.Depends. -/
namespace Go.Proofs.Ytmlldjcbijoheaa
open Go.RowKit

theorem nodup_addName {l : List ByteArray} (h : l.Nodup) (s : ByteArray) : (addName l s).Nodup := by
  unfold addName
  split
  · exact h
  · rename_i hn
    rw [hasName_iff] at hn
    rw [List.nodup_append]
    refine ⟨h, by simp, fun a ha b hb e => ?_⟩
    simp at hb
    subst hb
    subst e
    exact hn ha
theorem nodup_addNames {l : List ByteArray} (h : l.Nodup) (ss : List ByteArray) : (addNames l ss).Nodup := by
  induction ss generalizing l with
  | nil => exact h
  | cons s ss ih => exact ih (nodup_addName h s)
theorem once_nodup {l : List ByteArray} (h : Once l) : l.Nodup := by
  unfold Once at h
  rw [← h]
  exact nodup_addNames List.nodup_nil l
theorem directL_nodup (l : List Stmt) (n : ByteArray) : (directL usedR l n).Nodup := by
  induction l with
  | nil => exact List.nodup_nil
  | cons s l ih =>
    unfold directL
    split
    · exact once_nodup (once_names s.expr)
    · exact ih
theorem nodup_len {l : List ByteArray} : ∀ {m : List ByteArray}, l.Nodup → (∀ x ∈ l, x ∈ m) → l.length ≤ m.length := by
  induction l with
  | nil => intro m _ _; simp
  | cons x t ih =>
    intro m hl hs
    obtain ⟨hx, ht⟩ := List.nodup_cons.1 hl
    have hm := hs x (List.mem_cons_self ..)
    have h1 := ih (m := m.filter fun y => !decide (y = x)) ht fun y hy => by
      simp only [List.mem_filter, Bool.not_eq_true', decide_eq_false_iff_not]
      exact ⟨hs y (List.mem_cons_of_mem _ hy), fun e => hx (e ▸ hy)⟩
    have h2 : (m.filter fun y => !decide (y = x)).length < m.length := by
      apply List.length_filter_lt_length_iff_exists.2
      exact ⟨x, hm, by simp⟩
    simp only [List.length_cons]
    omega
/-- the names that statements use -/
def usedAll (l : List Stmt) : List ByteArray := l.flatMap usedR
theorem usedAll_len {l : List Stmt} (h : ∀ s ∈ l, s.expr.count ≤ 300) : (usedAll l).length ≤ 300 * l.length := by
  induction l with
  | nil => simp [usedAll]
  | cons s l ih =>
    have h1 := ih fun t ht => h t (List.mem_cons_of_mem _ ht)
    have h2 := h s (List.mem_cons_self ..)
    have h3 := length_names s.expr
    unfold usedAll usedR at h1 ⊢
    simp only [List.flatMap_cons, List.length_append, List.length_cons]
    omega
theorem directL_all {l : List Stmt} {n x : ByteArray} (h : x ∈ directL usedR l n) : x ∈ usedAll l := by
  obtain ⟨s, hs, hx⟩ := directL_mem h
  exact List.mem_flatMap.2 ⟨s, hs, hx⟩
/-- what has been found, of which the first i have been followed -/
structure Bfs (l : List Stmt) (n : ByteArray) (i : Nat) (fd : List ByteArray) : Prop where
  reach : ∀ x ∈ fd, Leads l n x
  base : ∀ x ∈ directL usedR l n, x ∈ fd
  step : ∀ (j : Nat) (y : ByteArray), j < i → fd[j]? = some y → ∀ x ∈ directL usedR l y, x ∈ fd
  nodup : fd.Nodup
  all : ∀ x ∈ fd, x ∈ usedAll l
theorem Bfs.start (l : List Stmt) (n : ByteArray) : Bfs l n 0 (directL usedR l n) :=
  ⟨fun _ h => .base h, fun _ h => h, fun _ _ h => absurd h (Nat.not_lt_zero _), directL_nodup l n, fun _ h => directL_all h⟩
theorem Bfs.len {l : List Stmt} {n : ByteArray} {i : Nat} {fd : List ByteArray} (h : Bfs l n i fd) : fd.length ≤ (usedAll l).length := nodup_len h.nodup h.all
theorem Bfs.done {l : List Stmt} {n : ByteArray} {fd : List ByteArray} (h : Bfs l n fd.length fd) (x : ByteArray) : hasName fd x = true ↔ Leads l n x := by
  rw [hasName_iff]
  refine ⟨h.reach x, fun hx => ?_⟩
  induction hx with
  | base hx => exact h.base _ hx
  | step _ hx ih =>
    obtain ⟨j, hj⟩ := List.mem_iff_getElem?.1 ih
    exact h.step j _ (lt_of_get hj) hj _ hx
/-- while the names of the next one are added -/
structure Mid (l : List Stmt) (n : ByteArray) (fd0 : List ByteArray) (done : List ByteArray) (fd : List ByteArray) : Prop where
  pre : ∃ e, fd = fd0 ++ e
  reach : ∀ x ∈ fd, Leads l n x
  nodup : fd.Nodup
  all : ∀ x ∈ fd, x ∈ usedAll l
  has : ∀ x ∈ done, x ∈ fd
theorem Bfs.mid {l : List Stmt} {n : ByteArray} {i : Nat} {fd : List ByteArray} (h : Bfs l n i fd) : Mid l n fd [] fd := ⟨⟨[], by simp⟩, h.reach, h.nodup, h.all, fun _ h => by cases h⟩
theorem Mid.len {l : List Stmt} {n : ByteArray} {fd0 done fd : List ByteArray} (h : Mid l n fd0 done fd) : fd.length ≤ (usedAll l).length := nodup_len h.nodup h.all
theorem Mid.old {l : List Stmt} {n : ByteArray} {fd0 done fd : List ByteArray} {x : ByteArray} (h : Mid l n fd0 done fd) (hx : hasName fd x = true) : Mid l n fd0 (done ++ [x]) fd :=
  ⟨h.pre, h.reach, h.nodup, h.all, fun y hy => by
    rcases List.mem_append.1 hy with hy | hy
    · exact h.has y hy
    · simp at hy; subst hy; exact hasName_iff.1 hx⟩
theorem Mid.new {l : List Stmt} {n : ByteArray} {fd0 done fd : List ByteArray} {x y : ByteArray} (h : Mid l n fd0 done fd) (hx : hasName fd x = false) (hr : Leads l n y) (hy : x ∈ directL usedR l y) : Mid l n fd0 (done ++ [x]) (fd ++ [x]) := by
  have hn : x ∉ fd := fun e => by rw [hasName_iff.2 e] at hx; cases hx
  obtain ⟨e, he⟩ := h.pre
  refine ⟨⟨e ++ [x], by rw [he, List.append_assoc]⟩, fun z hz => ?_, ?_, fun z hz => ?_, fun z hz => ?_⟩
  · rcases List.mem_append.1 hz with hz | hz
    · exact h.reach z hz
    · simp at hz; subst hz; exact .step hr hy
  · rw [List.nodup_append]
    refine ⟨h.nodup, by simp, fun a ha b hb e => ?_⟩
    simp at hb
    subst hb
    subst e
    exact hn ha
  · rcases List.mem_append.1 hz with hz | hz
    · exact h.all z hz
    · simp at hz; subst hz; exact directL_all hy
  · rcases List.mem_append.1 hz with hz | hz
    · exact List.mem_append_left _ (h.has z hz)
    · exact List.mem_append_right _ hz
theorem Mid.bfs {l : List Stmt} {n : ByteArray} {i : Nat} {fd0 fd : List ByteArray} {y : ByteArray} (h0 : Bfs l n i fd0) (hy : fd0[i]? = some y) (h : Mid l n fd0 (directL usedR l y) fd) : Bfs l n (i + 1) fd := by
  obtain ⟨e, he⟩ := h.pre
  refine ⟨h.reach, fun x hx => ?_, fun j z hj hz x hx => ?_, h.nodup, h.all⟩
  · rw [he]; exact List.mem_append_left _ (h0.base x hx)
  · have hi := lt_of_get hy
    rw [he, List.getElem?_append_left (by omega)] at hz
    by_cases hji : j < i
    · rw [he]; exact List.mem_append_left _ (h0.step j z hji hz x hx)
    · obtain rfl : j = i := by omega
      rw [hy] at hz
      injection hz with hz
      subst hz
      exact h.has x hx
def RetDep (l : List Stmt) (n : ByteArray) (all : List ByteArray) (w : World) (e : Ending) (w' : World) : Prop :=
  ∃ (f : ByteArray → Bool) (a : Option Addr) (c : Nat), (∀ x, f x = true ↔ Leads l n x) ∧ e = .returned (.tuple #[.slice a (all.filter f).length c, .int .i64 0]) ∧ OwnS w.heap.size w' a c (all.filter f) ∧ Below w.heap.size w w'

set_option maxRecDepth 100000 in
set_option maxHeartbeats 4000000 in
theorem dependsR_any (d : Nat) (l : List Stmt) (n : ByteArray) (la : Option Addr) (lc : Nat) (w : World) (h : StmtsR d w la lc l) (hl : l.length ≤ 40) (hc : ∀ s ∈ l, s.expr.count ≤ 300 ∧ s.names.length ≤ 40) (hn : hasName (namesOf (takesR 0) l) n = true) :
    Calls Try.prog 45 #[progVal l.length la lc, .string n] w (RetDep l n (namesOf (takesR 0) l) w) := by
  have hnl := namesOf_length (g := takesR 0) fun x hx => (hc x hx).2
  have hul := usedAll_len fun s hs => (hc s hs).1
  have CD := fun W (hW : Below w.heap.size w W) => definedR_any d l 0 la lc W (h.ext (Ext.below hW)) (by omega)
  have CX := fun W (hW : Below w.heap.size w W) m => direct19_any d l m la lc W (h.ext (Ext.below hW)) (fun s hs => (hc s hs).1)
  have hdl := directL_len n fun s hs => (hc s hs).1
  have HDL := Lib.hid fun m => directL_len m fun s hs => (hc s hs).1
  revert CD hn hnl
  generalize namesOf (takesR 0) l = L
  intro hn hnl CD
  have hLl : L.length ≤ 1600 := by omega
  have hUl : (usedAll l).length ≤ 12000 := by omega
  unfold progVal at CD CX ⊢
  replace CD := Lib.hid CD
  replace CX := Lib.hid CX
  clear h hc hnl hul
  have hz := Blk.new w 52 #[.slice la l.length lc]
  have hb0 : Below w.heap.size w (w.alloc (.cells #[.slice la l.length lc] 52)) := by go_grown
  go_enter Try.func45, Try.ntmps45
  go_wp2_with fail
  revert hz hb0
  generalize w.alloc (.cells #[.slice la l.length lc] 52) = w0
  intro hz hb0
  refine (CD.out _ hb0).mono ?_
  rintro r w1 ⟨aL, cL, rfl, hoL, hb1⟩
  have hw1 := below_then hb0 hb1
  have hz1 := hz.below' hb1
  have HLR := Lib.hid hoL.reads1
  clear hz hb0 hb1 hoL CD
  go_wp2_with fail
  have CH := has_any L aL cL n w1 HLR.out
  rw [hn] at CH
  refine CH.mono ?_
  rintro r w2 ⟨rfl, rfl⟩
  clear CH hn
  have z0 := hz1.cell 0
  go_wp2_with fail
  refine (CX.out _ hw1 n).mono ?_
  rintro r w2 ⟨aF, cF, rfl, hoF, hb2⟩
  have hw2 := below_then hw1 hb2
  have HOF := Lib.hid hoF
  have hs12 := hb2.size
  clear hoF z0
  have hB0 := Bfs.start l n
  revert hdl HOF hB0
  generalize directL usedR l n = F0
  intro hdl HOF hB0
  go_wp2_with fail
  obtain ⟨wI, rfl⟩ : ∃ q : World, q = w1 := ⟨_, rfl⟩
  go_loopg [7, 8] 12001 (fun m r q wr => ∃ (i : Nat) (fd : List ByteArray) (a : Option Addr) (c : Nat), i + m = 12001 ∧ q = .int .i64 i ∧ r = .slice a fd.length c ∧ OwnS wI.heap.size wr a c fd ∧ Below wI.heap.size wI wr ∧ i ≤ fd.length ∧ Bfs l n i fd)
  case atStart => exact ⟨0, F0, aF, cF, by omega, rfl, rfl, HOF.out, hb2, by omega, hB0⟩
  case round =>
    clear hB0 HOF hb2
    obtain ⟨i, fd, a, c, him, rfl, rfl, ho, hbr, hil, hB⟩ := hrel
    have hwr := below_then hw1 hbr
    have HIM := Lib.hid him
    have HO := Lib.hid ho
    have HB := Lib.hid hB
    have hfl := hB.len
    clear him ho hB
    by_cases hlt : i < fd.length
    · obtain ⟨y, hy⟩ := get_of_lt hlt
      obtain ⟨g, rfl, hgB, hgl, u0⟩ := HO.out.at1 hy
      have hzr := hz1.below' hbr
      have z0 := held (hzr.cell 0)
      have U0 := held u0
      have hry := HB.out.reach y (List.mem_of_getElem? hy)
      have HY := Lib.hid hy
      have HRY := Lib.hid hry
      have s0 : Below wr.heap.size wr wr.drew := (Below.refl _ _).drew
      have CXY := fun W (hW : Below w.heap.size w W) => CX.out W hW y
      have hdy := HDL.out y
      obtain ⟨N, hN⟩ : ∃ q, directL usedR l y = q := ⟨_, rfl⟩
      rw [hN] at CXY hdy
      have HN := Lib.hid hN
      replace CXY := Lib.hid CXY
      clear hy hry u0 hN
      go_wp2_with fail
      refine wp_region_mix (S := Below wr.heap.size wr) [(0, .q), (1, .q), (2, .q), (3, .q), (4, .q), (7, .q), (5, .l), (6, .q)] (by kernel_rfl) (by kernel_rfl) (by kernel_rfl) (fun d _ _ _ _ h => by cases d <;> exact h) (s0) ?_
      iterate 6 (refine wpMix_q rfl rfl (fun K hK => ?_); apply Exists.intro; refine ⟨fun w' hw' => ?_, ?_⟩; (focus (go_simp; try rfl)); go_simp; refine hK _ _ ?_; clear hK K)
      refine wpMix_l rfl rfl (fun K hK => ?_)
      go_simp
      refine (CXY.out _ (below_then hwr s0)).mono ?_
      rintro r w3 ⟨aN, cN, rfl, hoN, hb3⟩
      dsimp only
      refine hK.out _ _ (below_then s0 hb3) (fun _ => ?_)
      clear hK K
      have s1 := below_then s0 hb3
      iterate 1 (refine wpMix_q rfl rfl (fun K hK => ?_); apply Exists.intro; refine ⟨fun w' hw' => ?_, ?_⟩; (focus (go_simp; try rfl)); go_simp; refine hK _ _ ?_; clear hK K)
      refine wpMix_nil ?_
      have hbr3 := below_then hbr s1
      have hM0 := HB.out.mid
      have HO3 := Lib.hid (HO.out.below s1)
      have hNlt : ∀ p, aN = some p → wr.heap.size ≤ p.block ∧ p.block < w3.heap.size := fun p e => hoN.lt e
      have hfr : ∀ p, (some ⟨g, 0, none⟩ : Option Addr) = some p → p.block < wr.heap.size ∨ w3.heap.size ≤ p.block := fun p e => .inl (by injection e with e; subst e; exact hgl)
      have HON := Lib.hid (show OwnS wr.heap.size w3 aN cN N from hoN)
      have hb3r := hbr3.size
      clear hzr z0 U0 s0 hb3 hoN HO CXY
      obtain ⟨wq, rfl⟩ : ∃ q : World, q = wr := ⟨_, rfl⟩
      obtain ⟨gO, rfl⟩ : ∃ q : Nat, q = gk := ⟨_, rfl⟩
      go_wp2_with fail
      go_loopg [7, 36] N.length (fun m r q wr => ∃ (j : Nat) (f2 : List ByteArray) (a2 : Option Addr) (c2 : Nat), j + m = N.length ∧ q = .int .i64 j ∧ r = .slice a2 f2.length c2 ∧ OwnS wI.heap.size wr a2 c2 f2 ∧ Below wI.heap.size wI wr ∧ OwnS wq.heap.size wr aN cN N ∧ w3.heap.size ≤ wr.heap.size ∧ (∀ p, a2 = some p → p.block < wq.heap.size ∨ w3.heap.size ≤ p.block) ∧ Mid l n fd (N.take j) f2)
      case atStart => exact ⟨0, fd, _, c, by omega, rfl, rfl, HO3.out, hbr3, HON.out, Nat.le_refl _, hfr, hM0⟩
      case round =>
        clear hM0 HO3 HON hfr hbr3 s1
        obtain ⟨j, f2, a2, c2, hjm, rfl, rfl, ho2, hb2, hoN, hsz, hfr, hM⟩ := hrel
        have HJM := Lib.hid hjm
        have HO2 := Lib.hid ho2
        have HM := Lib.hid hM
        have HFR := Lib.hid hfr
        have h2l := hM.len
        have hb2s := hb2.size
        clear hjm ho2 hM hfr
        by_cases hjl : j < N.length
        · obtain ⟨x, hx⟩ := get_of_lt hjl
          obtain ⟨gN, rfl, hNB, hNl, u0⟩ := OwnS.at1 hoN hx
          have CH := has_any f2 a2 c2 x wr HO2.out.reads1
          have HXD := Lib.hid (show x ∈ directL usedR l y by rw [HN.out]; exact List.mem_of_getElem? hx)
          have HXX := Lib.hid hx
          have HON := Lib.hid hoN
          obtain ⟨b, hb⟩ : ∃ q, hasName f2 x = q := ⟨_, rfl⟩
          rw [hb] at CH
          have HBB := Lib.hid hb
          replace CH := Lib.hid CH
          clear hx hb hoN
          go_wp2_with fail
          refine CH.out.mono ?_
          rintro r w5 ⟨rfl, rfl⟩
          clear CH u0
          cases b
          · have hln : (f2 ++ [x]).length ≤ 16777216 := by simp; omega
            go_wp2_with (at_builtin; go_must (refine append_str rfl (.tmp 44) (.tmp 46) rfl a2 c2 rfl (HO2.out.alloc _) x wr.heap.size 1 rfl (by simp) (f2 ++ [x]) rfl hln (by simp; omega) ?_); intro a4 c4 w6 ho6 hg6 hx6)
            go_roundg (gk - 1)
            case rel =>
              have hsz6 := hg6.size
              refine ⟨j + 1, f2 ++ [x], a4, c4, by have := HJM.out; omega, by go_num, by simp, ho6, below_app (hb2.alloc hb2.size _) HO2.out (Nat.le_refl _) (by simp; omega) hg6, (HON.out.alloc _).grown hg6 ?_, by simp at hsz6; omega, ?_, ?_⟩
              · intro p hp e
                obtain ⟨h1, h2⟩ := hNlt p hp
                cases a2 with
                | none => simp [Value.ownBlock] at e
                | some q =>
                  simp [Value.ownBlock] at e
                  rcases HFR.out q rfl with h3 | h3 <;> omega
              · intro p hp
                obtain ⟨g6, e6, h6⟩ := hx6
                rw [e6] at hp
                injection hp with hp
                subst hp
                rcases h6 with h6 | h6
                · exact HFR.out _ h6
                · right; simp at h6 ⊢; omega
              · rw [take_more HXX.out]
                exact HM.out.new HBB.out HRY.out HXD.out
            case measure => have := HJM.out; omega
          · go_wp2
            go_roundg (gk - 1)
            case rel => exact ⟨j + 1, f2, a2, c2, by have := HJM.out; omega, by go_num, rfl, HO2.out, hb2, HON.out, hsz, HFR.out, by rw [take_more HXX.out]; exact HM.out.old HBB.out⟩
            case measure => have := HJM.out; omega
        · have hj : j = N.length := by have := HJM.out; omega
          have hMB : Bfs l n (i + 1) f2 := Mid.bfs HB.out HY.out (by rw [HN.out]; have := HM.out; rwa [hj, List.take_of_length_le (Nat.le_refl _)] at this)
          have hpre : fd.length ≤ f2.length := by obtain ⟨e, he⟩ := HM.out.pre; rw [he]; simp
          have HMB := Lib.hid hMB
          clear hMB hj
          go_wp2
          go_roundg (gO - 1)
          case rel => exact ⟨i + 1, f2, a2, c2, by have := HIM.out; omega, by go_num, rfl, HO2.out, hb2, by omega, HMB.out⟩
          case measure => have := HIM.out; omega
    · obtain rfl : i = fd.length := by omega
      have hdone := HB.out.done
      have HDONE := Lib.hid hdone
      have HL3 := Lib.hid (HLR.out.ext (Ext.below hbr))
      obtain ⟨R, hR⟩ : ∃ q, L.filter (hasName fd) = q := ⟨_, rfl⟩
      have HR2 : Hid ([] ++ (L.drop 0).filter (hasName fd) = R) := Lib.hid (by simpa using hR)
      have HRR := Lib.hid hR
      obtain ⟨wq, rfl⟩ : ∃ q : World, q = wr := ⟨_, rfl⟩
      have HOF := Lib.hid HO.out.reads1
      clear hdone HLR hR HO
      go_wp2_with fail
      go_loopg [11, 51] L.length (fun n r q wr => ∃ (k : Nat) (a : Option Addr) (c : Nat) (acc : List ByteArray), k + n = L.length ∧ q = .int .i64 k ∧ r = .slice a acc.length c ∧ OwnS wq.heap.size wr a c acc ∧ Below wq.heap.size wq wr ∧ acc ++ (L.drop k).filter (hasName fd) = R)
      case atStart => exact ⟨0, none, 0, [], by omega, rfl, rfl, Own.nil, Below.refl _ _, HR2.out⟩
      case round =>
        obtain ⟨k, a3, c3, acc, hkn, rfl, rfl, ho, hb4, ha⟩ := hrel
        have HKN := Lib.hid hkn
        have HA := Lib.hid ha
        have HO := Lib.hid ho
        have hs4 := hb4.size
        clear hkn ha ho
        by_cases hlt3 : k < L.length
        · obtain ⟨x, hx⟩ := get_of_lt hlt3
          obtain ⟨b, off, rfl, hcx⟩ := (HL3.out.ext (Ext.below hb4)).2.2 k x hx
          have u0 : wr.cell? ⟨b, off + k, none⟩ = some (.string x) := by simpa [StrE] using hcx
          have CH := has_any fd a c x wr (HOF.out.ext (Ext.below hb4))
          have hax := HA.out
          rw [filter_at hx] at hax
          obtain ⟨bv, hbv⟩ : ∃ q, hasName fd x = q := ⟨_, rfl⟩
          rw [hbv] at CH hax
          have HAX := Lib.hid hax
          replace CH := Lib.hid CH
          clear hx hcx hax hbv HA
          go_wp2_with fail
          refine CH.out.mono ?_
          rintro r w5 ⟨rfl, rfl⟩
          clear CH u0
          cases bv
          · have HAX2 : Hid (acc ++ (L.drop (k + 1)).filter (hasName fd) = R) := Lib.hid (by simpa using HAX.out)
            clear HAX
            go_wp2
            go_roundg (gk - 1)
            case rel => exact ⟨k + 1, a3, c3, acc, by have := HKN.out; omega, by go_num, rfl, HO.out, hb4, HAX2.out⟩
            case measure => have := HKN.out; omega
          · have HAX2 : Hid ((acc ++ [x]) ++ (L.drop (k + 1)).filter (hasName fd) = R) := Lib.hid (by rw [List.append_assoc]; simpa using HAX.out)
            have hln : (acc ++ [x]).length ≤ 16777216 := by
              have h1 := HR2.out
              rw [← HAX2.out] at h1
              have h2 : ((L.drop 0).filter (hasName fd)).length ≤ L.length := by simpa using List.length_filter_le (hasName fd) L
              have h3 := congrArg List.length h1
              simp only [List.nil_append, List.length_append] at h3 ⊢
              omega
            clear HAX
            go_wp2_with (at_builtin; go_must (refine append_str rfl (.tmp 58) (.tmp 60) rfl a3 c3 rfl (HO.out.alloc _) x wr.heap.size 1 rfl (by simp) (acc ++ [x]) rfl hln (by simp; omega) ?_); intro a2 c2 w5 ho5 hg5 hx5)
            go_roundg (gk - 1)
            case rel => exact ⟨k + 1, a2, c2, acc ++ [x], by have := HKN.out; omega, by go_num, by simp, ho5, below_app (hb4.alloc hb4.size _) HO.out (Nat.le_refl _) (by simp; omega) hg5, HAX2.out⟩
            case measure => have := HKN.out; omega
        · have hr : acc = R := by rw [← HA.out, List.drop_eq_nil_of_le (by omega)]; simp
          subst hr
          go_wp2
          refine bodyPost_ret (v := .tuple #[.slice a3 acc.length c3, .int .i64 0]) (by simp [results, Try.results45, go_sem]) rfl ?_
          exact ⟨hasName fd, a3, c3, HDONE.out, by rw [HRR.out], by rw [HRR.out]; exact HO.out.base hwr.size, below_then hwr hb4⟩

set_option maxRecDepth 100000 in
set_option maxHeartbeats 1000000 in
theorem dependsR_err (d : Nat) (l : List Stmt) (n : ByteArray) (la : Option Addr) (lc : Nat) (w : World) (h : StmtsR d w la lc l) (hl : l.length ≤ 40) (hc : ∀ s ∈ l, s.names.length ≤ 40) (hn : hasName (namesOf (takesR 0) l) n = false) :
    Calls Try.prog 45 #[progVal l.length la lc, .string n] w fun r w' => r = .returned (.tuple #[.slice none 0 0, .int .i64 6]) ∧ Below w.heap.size w w' := by
  have hnl := namesOf_length (g := takesR 0) hc
  have CD := fun W (hW : Below w.heap.size w W) => definedR_any d l 0 la lc W (h.ext (Ext.below hW)) (by omega)
  revert CD hn
  generalize namesOf (takesR 0) l = L
  intro hn CD
  unfold progVal at CD ⊢
  replace CD := Lib.hid CD
  clear h hc hnl
  have hb0 : Below w.heap.size w (w.alloc (.cells #[.slice la l.length lc] 52)) := by go_grown
  go_enter Try.func45, Try.ntmps45
  go_wp2_with fail
  revert hb0
  generalize w.alloc (.cells #[.slice la l.length lc] 52) = w0
  intro hb0
  refine (CD.out _ hb0).mono ?_
  rintro r w1 ⟨aL, cL, rfl, hoL, hb1⟩
  have hw1 := below_then hb0 hb1
  have CH := has_any L aL cL n w1 hoL.reads1
  rw [hn] at CH
  clear hoL hb1 hb0 CD
  go_wp2_with fail
  refine CH.mono ?_
  rintro r w2 ⟨rfl, rfl⟩
  clear CH hn
  go_wp2_with fail
  refine bodyPost_ret (v := .tuple #[.slice none 0 0, .int .i64 6]) (by simp [results, Try.results45, go_sem]) rfl ⟨rfl, hw1⟩
end Go.Proofs.Ytmlldjcbijoheaa

/- Walks: the functions that scope.Depends hands to slices.IndexFunc and slices.ContainsFunc. -/
namespace Go.Proofs.Ytmlldjcbijoheaa
open Go.RowKit

set_option maxRecDepth 100000 in
set_option maxHeartbeats 1000000 in
theorem defines_any (s : Stmt) (p : SA) (n : ByteArray) (g : Nat) (w : World) (h : StrsR w p.sa p.sc s.names) (hg : w.cell? ⟨g, 0, none⟩ = some (.string n)) :
    Calls Try.prog 81 #[s.val p, .pointer (some ⟨g, 0, none⟩)] w fun r w' => r = .returned (.bool (hasName s.names n)) ∧ Below w.heap.size w w' := by
  have CC := fun W (hW : Below w.heap.size w W) => containsS_any s.names n p.sa p.sc W (h.ext (Ext.below hW))
  obtain ⟨b, hb⟩ : ∃ q, hasName s.names n = q := ⟨_, rfl⟩
  rw [hb] at CC ⊢
  have hnl := h.len
  unfold Stmt.val
  replace CC := Lib.hid CC
  have hb0 : Below w.heap.size w (w.alloc (.cells #[.int .i64 s.kind, .slice p.sa s.names.length p.sc, .int .i64 s.expr.kind, .string s.expr.name, .bool s.expr.neg, .slice p.na s.expr.num.length p.nc, .slice p.da s.expr.den.length p.dc, .slice p.aa s.expr.args.length p.ac, .int .i64 s.expr.pos, .int .i64 s.pos] 49)) := by go_grown
  have hgl : g < w.heap.size := World.block_lt_of_cell? w _ hg
  have hgl2 : g < w.heap.size + 1 := by omega
  clear h hb
  go_enter Try.func81, Try.ntmps81
  go_wp2_with fail
  refine (CC.out _ hb0).mono ?_
  rintro r w1 ⟨rfl, rfl⟩
  go_wp2
  go_ret
  exact ⟨rfl, hb0⟩
set_option maxRecDepth 100000 in
set_option maxHeartbeats 1000000 in
theorem needed_any (n : ByteArray) (g b m : Nat) (S : ByteArray → Bool) (w : World) (hg : w.cell? ⟨g, 0, none⟩ = some (.map (some b))) (hm : OwnM w b m S) (hn : n.size ≤ maxLen) :
    Calls Try.prog 83 #[.string n, .pointer (some ⟨g, 0, none⟩)] w fun r w' => r = .returned (.bool (S n)) ∧ w = w' := by
  have hl := hm.look hn
  clear hm hn
  go_enter Try.func83, Try.ntmps83
  go_wp2
  go_ret
  exact ⟨rfl, rfl⟩
/-- the number of the first statement that defines a name -/
def atFrom (n : ByteArray) (i : Nat) : List Stmt → Int
  | [] => -1
  | s :: r => if hasName s.names n = true then (i : Int) else atFrom n (i + 1) r
theorem atFrom_at {n : ByteArray} {l : List Stmt} {k : Nat} {x : Stmt} (h : l[k]? = some x) : atFrom n k (l.drop k) = if hasName x.names n = true then (k : Int) else atFrom n (k + 1) (l.drop (k + 1)) := by
  have hk := lt_of_get h
  rw [List.drop_eq_getElem_cons hk]
  have : l[k] = x := by rw [List.getElem?_eq_getElem hk] at h; exact Option.some.inj h
  rw [this, atFrom]
def idxS (S : ByteArray → Bool) (i : Nat) : List ByteArray → Int
  | [] => -1
  | s :: r => if S s = true then (i : Int) else idxS S (i + 1) r
theorem idxS_at {S : ByteArray → Bool} {l : List ByteArray} {k : Nat} {x : ByteArray} (h : l[k]? = some x) : idxS S k (l.drop k) = if S x = true then (k : Int) else idxS S (k + 1) (l.drop (k + 1)) := by
  have hk := lt_of_get h
  rw [List.drop_eq_getElem_cons hk]
  have : l[k] = x := by rw [List.getElem?_eq_getElem hk] at h; exact Option.some.inj h
  rw [this, idxS]
theorem idxS_any (S : ByteArray → Bool) : ∀ (l : List ByteArray) (i : Nat), decide (0 ≤ idxS S i l) = l.any S
  | [], i => by simp [idxS]
  | x :: r, i => by
    have ih := idxS_any S r (i + 1)
    rw [idxS, List.any_cons]
    by_cases h : S x = true
    · rw [if_pos h, h]; simp
    · rw [if_neg h, ih]; simp [h]

set_option maxRecDepth 100000 in
set_option maxHeartbeats 4000000 in
theorem indexDef_any (d : Nat) (l : List Stmt) (n : ByteArray) (g : Nat) (la : Option Addr) (lc : Nat) (w : World) (h : StmtsR d w la lc l) (hg : w.cell? ⟨g, 0, none⟩ = some (.string n)) :
    Calls Try.prog 80 #[.slice la l.length lc, .func (Fn.func 81) #[] #[.pointer (some ⟨g, 0, none⟩)]] w fun r w' => r = .returned (.int .i64 (atFrom n 0 l)) ∧ Below w.heap.size w w' := by
  have HL := Lib.hid h
  have hll := h.len
  obtain ⟨R, hR⟩ : ∃ q, atFrom n 0 l = q := ⟨_, rfl⟩
  rw [hR]
  have HR : Hid (atFrom n 0 (l.drop 0) = R) := Lib.hid hR
  have HG := Lib.hid hg
  clear h hR hg
  go_enter Try.func80, Try.ntmps80
  go_wp2
  obtain ⟨wo, rfl⟩ : ∃ wo : World, wo = w := ⟨_, rfl⟩
  go_loopg [8] l.length (fun m q wr => ∃ k : Nat, k + m = l.length ∧ q = .int .i64 k ∧ Below wo.heap.size wo wr ∧ atFrom n k (l.drop k) = R)
  case atStart => exact ⟨0, by omega, rfl, Below.refl _ _, HR.out⟩
  case round =>
    obtain ⟨k, hkg, rfl, hwr, ha⟩ := hrel
    have HKG := Lib.hid hkg
    have HA := Lib.hid ha
    clear hkg ha
    by_cases hlt : k < l.length
    · obtain ⟨x, hx⟩ := get_of_lt hlt
      obtain ⟨bx, ox, rfl, p, hC, hR⟩ := (HL.out.ext (Ext.below hwr)).2.2 k x hx
      obtain ⟨c0, c1, c2, c3, c4, c5, c6, c7, c8, c9⟩ := hC
      have hax := HA.out
      rw [atFrom_at hx] at hax
      have CD := defines_any x p n g wr hR.names (Ext.below hwr _ _ HG.out)
      obtain ⟨b, hb⟩ : ∃ q, hasName x.names n = q := ⟨_, rfl⟩
      rw [hb] at CD hax
      unfold Stmt.val at CD
      have HAX := Lib.hid hax
      replace CD := Lib.hid CD
      clear hx hR hax hb HA
      go_wp2_with fail
      refine CD.out.mono ?_
      rintro r w1 ⟨rfl, hb1⟩
      have hw1 := below_then hwr hb1
      clear c0 c1 c2 c3 c4 c5 c6 c7 c8 c9 CD
      cases b
      · have HAX2 : Hid (atFrom n (k + 1) (l.drop (k + 1)) = R) := Lib.hid (by simpa using HAX.out)
        clear HAX
        go_wp2
        go_roundg (gk - 1)
        case rel => exact ⟨k + 1, by have := HKG.out; omega, by go_num, hw1, HAX2.out⟩
        case measure => have := HKG.out; omega
      · have hkR : (k : Int) = R := by simpa using HAX.out
        subst hkR
        clear HAX
        go_wp2
        go_ret
        exact ⟨rfl, hw1⟩
    · have hr : (-1 : Int) = R := by rw [← HA.out, List.drop_eq_nil_of_le (by omega)]; rfl
      subst hr
      go_wp2
      go_ret
      exact ⟨rfl, hwr⟩

set_option maxRecDepth 100000 in
set_option maxHeartbeats 4000000 in
theorem indexNeed_any (l : List ByteArray) (g b m : Nat) (S : ByteArray → Bool) (la : Option Addr) (lc : Nat) (w : World) (h : StrsR w la lc l) (hs : ∀ s ∈ l, s.size ≤ maxLen) (hg : w.cell? ⟨g, 0, none⟩ = some (.map (some b))) (hm : OwnM w b m S) :
    Calls Try.prog 107 #[.slice la l.length lc, .func (Fn.func 83) #[] #[.pointer (some ⟨g, 0, none⟩)]] w fun r w' => r = .returned (.int .i64 (idxS S 0 l)) ∧ w = w' := by
  have HL := Lib.hid h
  have HS := Lib.hid hs
  have HM := Lib.hid hm
  have HG := Lib.hid hg
  have hll := h.len
  obtain ⟨R, hR⟩ : ∃ q, idxS S 0 l = q := ⟨_, rfl⟩
  rw [hR]
  have HR : Hid (idxS S 0 (l.drop 0) = R) := Lib.hid hR
  clear h hR hg hm hs
  go_enter Try.func107, Try.ntmps107
  go_wp2
  obtain ⟨wo, rfl⟩ : ∃ wo : World, wo = w := ⟨_, rfl⟩
  go_loopg [8] l.length (fun m q wr => ∃ k : Nat, k + m = l.length ∧ q = .int .i64 k ∧ wo = wr ∧ idxS S k (l.drop k) = R)
  case atStart => exact ⟨0, by omega, rfl, rfl, HR.out⟩
  case round =>
    obtain ⟨k, hkg, rfl, rfl, ha⟩ := hrel
    have HKG := Lib.hid hkg
    have HA := Lib.hid ha
    clear hkg ha
    by_cases hlt : k < l.length
    · obtain ⟨x, hx⟩ := get_of_lt hlt
      obtain ⟨bx, ox, rfl, hcx⟩ := HL.out.2.2 k x hx
      have u0 : wo.cell? ⟨bx, ox + k, none⟩ = some (.string x) := by simpa [StrE] using hcx
      have hax := HA.out
      rw [idxS_at hx] at hax
      have CD := needed_any x g b m S wo HG.out HM.out (HS.out x (List.mem_of_getElem? hx))
      obtain ⟨bv, hb⟩ : ∃ q, S x = q := ⟨_, rfl⟩
      rw [hb] at CD hax
      have HAX := Lib.hid hax
      replace CD := Lib.hid CD
      clear hx hcx hax hb HA
      go_wp2_with fail
      refine CD.out.mono ?_
      rintro r w1 ⟨rfl, rfl⟩
      clear CD u0
      cases bv
      · have HAX2 : Hid (idxS S (k + 1) (l.drop (k + 1)) = R) := Lib.hid (by simpa using HAX.out)
        clear HAX
        go_wp2
        go_roundg (gk - 1)
        case rel => exact ⟨k + 1, by have := HKG.out; omega, by go_num, rfl, HAX2.out⟩
        case measure => have := HKG.out; omega
      · have hkR : (k : Int) = R := by simpa using HAX.out
        subst hkR
        clear HAX
        go_wp2
        go_ret
        exact ⟨rfl, rfl⟩
    · have hr : (-1 : Int) = R := by rw [← HA.out, List.drop_eq_nil_of_le (by omega)]; rfl
      subst hr
      go_wp2
      go_ret
      exact ⟨rfl, rfl⟩
set_option maxRecDepth 100000 in
set_option maxHeartbeats 1000000 in
theorem anyNeed_any (l : List ByteArray) (g b m : Nat) (S : ByteArray → Bool) (la : Option Addr) (lc : Nat) (w : World) (h : StrsR w la lc l) (hs : ∀ s ∈ l, s.size ≤ maxLen) (hg : w.cell? ⟨g, 0, none⟩ = some (.map (some b))) (hm : OwnM w b m S) :
    Calls Try.prog 82 #[.slice la l.length lc, .func (Fn.func 83) #[] #[.pointer (some ⟨g, 0, none⟩)]] w fun r w' => r = .returned (.bool (l.any S)) ∧ w = w' := by
  have CI := indexNeed_any l g b m S la lc w h hs hg hm
  have hf := idxS_any S l 0
  revert CI hf
  generalize idxS S 0 l = q
  intro CI hf
  rw [← hf]
  clear h hf hg hm
  replace CI := Lib.hid CI
  go_enter Try.func82, Try.ntmps82
  go_wp2_with fail
  refine CI.out.mono ?_
  rintro e w1 ⟨rfl, rfl⟩
  go_wp2
  go_ret
  exact ⟨rfl, rfl⟩
end Go.Proofs.Ytmlldjcbijoheaa
