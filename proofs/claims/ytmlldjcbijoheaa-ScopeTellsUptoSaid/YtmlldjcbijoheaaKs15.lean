/- Walks: the names that the definition of a name uses, and on what a name depends, by the reference. -/
import Derived.Test.YtmlldjcbijoheaaKs14
import Derived.Test.YtmlldjcbijoheaaKs12

/- Walks: the names that no statement uses, by the reference and by the program. -/
namespace Go.Proofs.Ytmlldjcbijoheaa
open Go.RowKit


theorem filter_at {α : Type} {f : α → Bool} {l : List α} {k : Nat} {x : α} (h : l[k]? = some x) : (l.drop k).filter f = if f x = true then x :: (l.drop (k + 1)).filter f else (l.drop (k + 1)).filter f := by
  have hk := lt_of_get h
  rw [List.drop_eq_getElem_cons hk]
  have : l[k] = x := by rw [List.getElem?_eq_getElem hk] at h; exact Option.some.inj h
  rw [this, List.filter_cons]
theorem mem_namess {n : ByteArray} : ∀ {es : List Expr} {m : List ByteArray}, n ∈ Expr.namess m es → n ∈ m ∨ ∃ e ∈ es, n ∈ e.names
  | [], m, h => .inl h
  | e :: es, m, h => by
    rw [Expr.namess] at h
    rcases mem_namess h with h | ⟨x, hx, hn⟩
    · rcases mem_addNames.1 h with h | h
      · exact .inl h
      · exact .inr ⟨e, List.mem_cons_self .., h⟩
    · exact .inr ⟨x, List.mem_cons_of_mem _ hx, hn⟩
theorem names_size (d : Nat) : ∀ (e : Expr) (na : Option Addr) (nc : Nat) (da : Option Addr) (dc : Nat) (aa : Option Addr) (ac : Nat) (w : World), ExprR d w na nc da dc aa ac e → ∀ n ∈ e.names, n.size ≤ maxLen := by
  induction d with
  | zero => intro e na nc da dc aa ac w h; exact h.elim
  | succ d ih =>
    intro e na nc da dc aa ac w h n hn
    obtain ⟨-, -, hnm, -, -, hx⟩ := h.of_succ
    rw [Expr.names_eq] at hn
    rcases mem_namess hn with hn | ⟨x, hx2, hn⟩
    · split at hn
      · simp at hn; subst hn; exact hnm
      · cases hn
    · obtain ⟨k, hk⟩ := List.mem_iff_getElem?.1 hx2
      obtain ⟨b, off, _, ma, mc, ea, ec, ba, bc, _, hr⟩ := hx.2.2 k x hk
      exact ih x ma mc ea ec ba bc w hr n hn
theorem usedS_size {d : Nat} {w : World} {p : SA} {s : Stmt} (h : StmtR d w p s) : ∀ n ∈ usedS s, n.size ≤ maxLen := fun n hn => by
  unfold usedS at hn
  split at hn
  · cases hn
  · exact names_size d _ _ _ _ _ _ _ w h.expr n hn
theorem namesOf_mem {g : Int → Bool} {l : List Stmt} {n : ByteArray} (h : n ∈ namesOf g l) : ∃ s ∈ l, n ∈ s.names := by
  induction l with
  | nil => cases h
  | cons x l ih =>
    unfold namesOf at h
    split at h
    · rcases List.mem_append.1 h with h | h
      · exact ⟨x, List.mem_cons_self .., h⟩
      · obtain ⟨s, hs, hn⟩ := ih h; exact ⟨s, List.mem_cons_of_mem _ hs, hn⟩
    · obtain ⟨s, hs, hn⟩ := ih h; exact ⟨s, List.mem_cons_of_mem _ hs, hn⟩
def unusedR (l : List Stmt) : List ByteArray := (namesOf (takesR 0) l).filter fun n => decide ((usesL usedR n 0 l).length = 0)
def leftS (L : List ByteArray) (l : List Stmt) (n : ByteArray) : Bool := hasName L n && l.all fun s => !hasName (usedS s) n
def unusedS (l : List Stmt) : List ByteArray := (namesOf (takesS 0) l).filter (leftS (namesOf (takesS 0) l) l)

set_option maxRecDepth 100000 in
set_option maxHeartbeats 4000000 in
theorem unusedR_any (d : Nat) (l : List Stmt) (la : Option Addr) (lc : Nat) (w : World) (h : StmtsR d w la lc l) (hl : l.length ≤ 40) (hc : ∀ s ∈ l, s.expr.count ≤ 300 ∧ s.names.length ≤ 40) :
    Calls Try.prog 40 #[progVal l.length la lc] w (RetS19 (unusedR l) w) := by
  have hnl := namesOf_length (g := takesR 0) fun x hx => (hc x hx).2
  have CD := fun W (hW : Below w.heap.size w W) => definedR_any d l 0 la lc W (h.ext (Ext.below hW)) (by omega)
  have CU := fun W (hW : Below w.heap.size w W) n => usesR_any d l n la lc W (h.ext (Ext.below hW)) hl (fun s hs => by have := (hc s hs).1; omega)
  obtain ⟨R, hR⟩ : ∃ q, unusedR l = q := ⟨_, rfl⟩
  rw [hR]
  unfold unusedR at hR
  revert CD hR hnl
  generalize namesOf (takesR 0) l = L
  intro hnl CD hR
  have HR : Hid ([] ++ (L.drop 0).filter (fun n => decide ((usesL usedR n 0 l).length = 0)) = R) := Lib.hid (by simpa using hR)
  unfold progVal at CD CU ⊢
  replace CD := Lib.hid CD
  replace CU := Lib.hid CU
  clear h hc hR
  have hz := Blk.new w 52 #[.slice la l.length lc]
  have hb0 : Below w.heap.size w (w.alloc (.cells #[.slice la l.length lc] 52)) := by go_grown
  go_enter Try.func40, Try.ntmps40
  go_wp2_with fail
  revert hz hb0
  generalize w.alloc (.cells #[.slice la l.length lc] 52) = w0
  intro hz hb0
  refine (CD.out _ hb0).mono ?_
  rintro r w1 ⟨aL, cL, rfl, hoL, hb1⟩
  have hw1 := below_then hb0 hb1
  have hz1 := hz.below' hb1
  have HLR := Lib.hid hoL.reads1
  clear hz hb0 hb1 hoL CD
  go_wp2_with fail
  go_loopg [3, 9] L.length (fun g r q wr => ∃ (k : Nat) (a : Option Addr) (c : Nat) (acc : List ByteArray), k + g = L.length ∧ q = .int .i64 k ∧ r = .slice a acc.length c ∧ OwnS w1.heap.size wr a c acc ∧ Below w1.heap.size w1 wr ∧ acc ++ (L.drop k).filter (fun n => decide ((usesL usedR n 0 l).length = 0)) = R)
  case atStart => exact ⟨0, none, 0, [], by omega, rfl, rfl, Own.nil, Below.refl _ _, HR.out⟩
  case round =>
    obtain ⟨k, a, c, acc, hkg, rfl, rfl, ho, hbr, ha⟩ := hrel
    have hwr := below_then hw1 hbr
    have hzr := hz1.below' hbr
    have z0 := hzr.cell 0
    have HKG := Lib.hid hkg
    have HA := Lib.hid ha
    have HO := Lib.hid ho
    clear hkg ha ho
    by_cases hlt : k < L.length
    · obtain ⟨x, hx⟩ := get_of_lt hlt
      obtain ⟨b, off, rfl, hcx⟩ := (HLR.out.ext (Ext.below hbr)).2.2 k x hx
      have u0 : wr.cell? ⟨b, off + k, none⟩ = some (.string x) := by simpa [StrE] using hcx
      have hax := HA.out
      rw [filter_at hx] at hax
      have CUX := CU.out wr hwr x
      obtain ⟨U, hU⟩ : ∃ q, usesL usedR x 0 l = q := ⟨_, rfl⟩
      rw [hU] at hax CUX
      have HAX := Lib.hid hax
      replace CUX := Lib.hid CUX
      clear hx hcx hax hU HA
      go_wp2_with fail
      refine CUX.out.mono ?_
      rintro r w2 ⟨a1, c1, rfl, ho1, hb2⟩
      have hbr2 := below_then hbr hb2
      have hwr2 := below_then hwr hb2
      have HO2 := Lib.hid (HO.out.below hb2)
      have hs2 := hbr2.size
      have hul := ho1.cap
      clear u0 z0 HO CUX ho1
      by_cases hu : U.length = 0
      · have hub : ((U.length : Int) == 0) = true := by rw [beq_iff_eq]; omega
        have HAX2 : Hid ((acc ++ [x]) ++ (L.drop (k + 1)).filter (fun n => decide ((usesL usedR n 0 l).length = 0)) = R) := Lib.hid (by have := HAX.out; rw [if_pos (by simpa using hu)] at this; rw [List.append_assoc]; exact this)
        have hln : (acc ++ [x]).length ≤ 16777216 := by
          have h1 := HR.out
          rw [← HAX2.out] at h1
          have h2 : ((L.drop 0).filter (fun n => decide ((usesL usedR n 0 l).length = 0))).length ≤ L.length := by simpa using List.length_filter_le (fun n => decide ((usesL usedR n 0 l).length = 0)) L
          have h3 := congrArg List.length h1
          simp only [List.nil_append, List.length_append] at h3 ⊢
          omega
        clear hu HAX
        go_wp2_with (at_builtin; go_must (refine append_str rfl (.tmp 18) (.tmp 20) rfl a c rfl (HO2.out.alloc _) x w2.heap.size 1 rfl (by simp) (acc ++ [x]) rfl hln (by simp; omega) ?_); intro a2 c2 w3 ho3 hg3 hx3)
        go_roundg (gk - 1)
        case rel =>
          exact ⟨k + 1, a2, c2, acc ++ [x], by have := HKG.out; omega, by go_num, by simp, ho3, below_app (hbr2.alloc hbr2.size _) HO2.out (Nat.le_refl _) (by simp; omega) hg3, HAX2.out⟩
        case measure => have := HKG.out; omega
      · have hub : ((U.length : Int) == 0) = false := by rw [beq_eq_false_iff_ne]; omega
        have HAX2 : Hid (acc ++ (L.drop (k + 1)).filter (fun n => decide ((usesL usedR n 0 l).length = 0)) = R) := Lib.hid (by have := HAX.out; rw [if_neg (by simpa using hu)] at this; exact this)
        clear hu HAX
        go_wp2
        go_roundg (gk - 1)
        case rel => exact ⟨k + 1, a, c, acc, by have := HKG.out; omega, by go_num, rfl, HO2.out, hbr2, HAX2.out⟩
        case measure => have := HKG.out; omega
    · have hr : acc = R := by rw [← HA.out, List.drop_eq_nil_of_le (by omega)]; simp
      subst hr
      go_wp2
      go_ret
      exact ⟨a, c, rfl, HO.out.base hw1.size, hwr⟩

theorem hasName_take {l : List ByteArray} {k : Nat} {x s : ByteArray} (h : l[k]? = some x) : hasName (l.take (k + 1)) s = (decide (s = x) || hasName (l.take k) s) := by
  rw [take_more h, hasName_more, Bool.or_comm]
  congr 1
  rw [Bool.eq_iff_iff]; simp [eq_comm]
set_option maxRecDepth 100000 in
set_option maxHeartbeats 8000000 in
theorem unusedS_any (d : Nat) (l : List Stmt) (la : Option Addr) (lc : Nat) (w : World) (h : StmtsR d w la lc l) (hl : l.length ≤ 40) (hc : ∀ s ∈ l, s.expr.count ≤ 300 ∧ s.names.length ≤ 40) (hs : ∀ s ∈ l, ∀ n ∈ s.names, n.size ≤ maxLen) :
    Calls Try.prog 39 #[progVal l.length la lc] w (RetS19 (unusedS l) w) := by
  have hnl := namesOf_length (g := takesS 0) fun x hx => (hc x hx).2
  have hns : ∀ n ∈ namesOf (takesS 0) l, n.size ≤ maxLen := fun n hn => by obtain ⟨s, h1, h2⟩ := namesOf_mem hn; exact hs s h1 n h2
  have CD := fun W (hW : Below w.heap.size w W) => definedS_any d l 0 la lc W (h.ext (Ext.below hW)) (by omega)
  obtain ⟨R, hR⟩ : ∃ q, unusedS l = q := ⟨_, rfl⟩
  rw [hR]
  unfold unusedS at hR
  revert CD hR hnl hns
  generalize namesOf (takesS 0) l = L
  intro hnl hns CD hR
  have HR := Lib.hid hR
  have HNS := Lib.hid hns
  have HL := Lib.hid h
  have HC := Lib.hid hc
  have hll := h.len
  have hLl : L.length ≤ 1600 := by omega
  unfold progVal at CD ⊢
  replace CD := Lib.hid CD
  clear h hc hR hns hs hnl
  have hz := (Blk.new w 52 #[.slice la l.length lc]).alloc (.map #[] 0)
  have hm := OwnM.made (w.alloc (.cells #[.slice la l.length lc] 52))
  have hb0 : Below w.heap.size w ((w.alloc (.cells #[.slice la l.length lc] 52)).alloc (.map #[] 0)) := by go_grown
  rw [show (w.alloc (.cells #[.slice la l.length lc] 52)).heap.size = w.heap.size + 1 by simp] at hm
  have hmm := @run_makeMap Try.prog
  go_enter Try.func39, Try.ntmps39
  go_wp2_with fail
  revert hz hb0 hm
  generalize (w.alloc (.cells #[.slice la l.length lc] 52)).alloc (.map #[] 0) = w0
  obtain ⟨mb, hmb⟩ : ∃ x, x = w.heap.size + 1 := ⟨_, rfl⟩
  rw [← hmb]
  intro hz hm hb0
  have hmbw : w.heap.size < mb := by omega
  have hml := hm.lt
  clear hmb
  refine (CD.out _ hb0).mono ?_
  rintro r w1 ⟨aL, cL, rfl, hoL, hb1⟩
  have hw1 := below_then hb0 hb1
  have hm1 := hm.below hb1
  have hz1 := hz.below' hb1
  have hml1 := hm1.lt
  have HOL := Lib.hid hoL
  clear hz hm hb1 hoL
  go_wp2_with fail
  go_loopg [17] L.length (fun n q wr => ∃ k : Nat, k + n = L.length ∧ q = .int .i64 k ∧ w1.grownBy wr (some mb) ∧ OwnM wr mb k (fun t => hasName (L.take k) t))
  case atStart => exact ⟨0, by omega, rfl, but_refl _ _, hm1.congr fun _ => rfl⟩
  case round =>
    obtain ⟨k, hkn, rfl, hg, hmr⟩ := hrel
    have HKN := Lib.hid hkn
    have HM := Lib.hid hmr
    clear hkn hmr
    by_cases hlt : k < L.length
    · obtain ⟨x, hx⟩ := get_of_lt hlt
      obtain ⟨g, rfl, hgB, hgl, u0⟩ := OwnS.at1 (HOL.out.but hg hml) hx
      have hxs := HNS.out x (List.mem_of_getElem? hx)
      have HX := Lib.hid hx
      clear hx
      go_wp2_with (at_mapUpdate; go_must (refine map_put rfl (.tmp 21) (.tmp 22) (.const (.bool true)) rfl rfl HM.out (by omega) x hxs rfl rfl ?_); intro w2 hm2 hg2)
      go_roundg (gk - 1)
      case rel => exact ⟨k + 1, by have := HKN.out; omega, by go_num, hg.trans hg2, hm2.congr fun s => by rw [hasName_take HX.out]⟩
      case measure => have := HKN.out; omega
    · have hk : k = L.length := by have := HKN.out; omega
      subst hk
      have hwA := below_but hw1 hg (by omega) hw1.size
      have hzA := hz1.grown hg (by simp; omega)
      have hmA : OwnM wr mb L.length (fun t => hasName L t && (l.take (0)).all fun s => !hasName (usedS s) t) := HM.out.congr fun s => by rw [List.take_of_length_le (Nat.le_refl _)]; simp
      have hmlA := hmA.lt
      have z0 := hzA.cell 0
      obtain ⟨wA, rfl⟩ : ∃ q : World, q = wr := ⟨_, rfl⟩
      obtain ⟨gA, rfl⟩ : ∃ q : Nat, q = gk := ⟨_, rfl⟩
      clear HM HOL hz1 hm1 hw1 hml1 hg hml HKN
      go_wp2_with fail
      go_loopg [27] l.length (fun n q wr => ∃ k : Nat, k + n = l.length ∧ q = .int .i64 k ∧ wA.grownBy wr (some mb) ∧ OwnM wr mb L.length (fun t => hasName L t && (l.take (k)).all fun s => !hasName (usedS s) t))
      case atStart => exact ⟨0, by omega, rfl, but_refl _ _, hmA⟩
      case round =>
        clear z0 hmA
        obtain ⟨k, hkn, rfl, hg, hmr⟩ := hrel
        have HKN := Lib.hid hkn
        have HM := Lib.hid hmr
        have hwr := below_but hwA hg (by omega) hwA.size
        have hmlr := hmr.lt
        clear hkn hmr
        by_cases hlt2 : k < l.length
        · obtain ⟨x, hx⟩ := get_of_lt hlt2
          obtain ⟨bx, ox, rfl, p, hC, hR⟩ := (HL.out.ext (Ext.below hwr)).2.2 k x hx
          obtain ⟨c0, c1, c2, c3, c4, c5, c6, c7, c8, c9⟩ := hC
          have hxc := (HC.out x (List.mem_of_getElem? hx)).1
          have CU := fun W (hW : Below wr.heap.size wr W) => used_any d x p W (hR.ext (Ext.below hW)) (by omega)
          have hus := usedS_size hR
          have hul : (usedS x).length ≤ 300 := by unfold usedS; split; simp; have := length_names x.expr; omega
          have hbz : Below wr.heap.size wr (wr.alloc (.cells #[.int .i64 x.kind, .slice p.sa x.names.length p.sc, .int .i64 x.expr.kind, .string x.expr.name, .bool x.expr.neg, .slice p.na x.expr.num.length p.nc, .slice p.da x.expr.den.length p.dc, .slice p.aa x.expr.args.length p.ac, .int .i64 x.expr.pos, .int .i64 x.pos] 49)) := by go_grown
          have hSK : ∀ t, (fun t => hasName L t && (l.take (k + 1)).all fun s => !hasName (usedS s) t) t = ((fun t => hasName L t && (l.take (k)).all fun s => !hasName (usedS s) t) t && !hasName (usedS x) t) := fun t => by
            show (hasName L t && (l.take (k + 1)).all _) = (hasName L t && (l.take k).all _ && _)
            rw [take_more hx, List.all_append]
            simp [Bool.and_assoc]
          have HSK := Lib.hid hSK
          unfold Stmt.val at CU
          revert CU hus hul HSK
          generalize usedS x = N
          intro CU hus hul HSK
          have HUS := Lib.hid hus
          replace CU := Lib.hid CU
          clear hx hR hus hSK
          go_wp2_with fail
          revert hbz
          generalize wr.alloc (.cells #[.int .i64 x.kind, .slice p.sa x.names.length p.sc, .int .i64 x.expr.kind, .string x.expr.name, .bool x.expr.neg, .slice p.na x.expr.num.length p.nc, .slice p.da x.expr.den.length p.dc, .slice p.aa x.expr.args.length p.ac, .int .i64 x.expr.pos, .int .i64 x.pos] 49) = wz
          intro hbz
          refine (CU.out _ hbz).mono ?_
          rintro r w2 ⟨a1, c1', rfl, ho1, hb2⟩
          have hbr2 := below_then hbz hb2
          have hgr2 := but_below hg hbr2
          have hm2 := HM.out.below hbr2
          have hmlz : mb < wz.heap.size := Nat.lt_of_lt_of_le hmlr hbz.size
          have hN16 := ho1.cap
          have HO1 := Lib.hid ho1
          clear c0 c1 c2 c3 c4 c5 c6 c7 c8 c9 HM CU hbz hb2 ho1
          obtain ⟨wq, rfl⟩ : ∃ q : World, q = wr := ⟨_, rfl⟩
          obtain ⟨gB, rfl⟩ : ∃ q : Nat, q = gk := ⟨_, rfl⟩
          go_wp2_with fail
          go_loopg [34] N.length (fun n q wr => ∃ j : Nat, j + n = N.length ∧ q = .int .i64 j ∧ w2.grownBy wr (some mb) ∧ OwnM wr mb L.length (fun t => (fun t => hasName L t && (l.take (k)).all fun s => !hasName (usedS s) t) t && !hasName (N.take j) t))
          case atStart => exact ⟨0, by omega, rfl, but_refl _ _, hm2.congr fun t => by simp [hasName]⟩
          case round =>
            clear hm2
            obtain ⟨j, hjn, rfl, hgj, hmj⟩ := hrel
            have HJN := Lib.hid hjn
            have HMJ := Lib.hid hmj
            clear hjn hmj
            by_cases hjl : j < N.length
            · obtain ⟨y, hy⟩ := get_of_lt hjl
              obtain ⟨g, rfl, hgB, hgl, u0⟩ := OwnS.at1 (HO1.out.but hgj hmlz) hy
              have hys := HUS.out y (List.mem_of_getElem? hy)
              have HY := Lib.hid hy
              clear hy
              go_wp2_with (at_delete; go_must (refine map_del rfl (.tmp 38) (.tmp 39) rfl rfl HMJ.out y hys rfl ?_); intro w3 hm3 hg3)
              go_roundg (gk - 1)
              case rel =>
                refine ⟨j + 1, by have := HJN.out; omega, by go_num, hgj.trans hg3, hm3.congr fun s => ?_⟩
                rw [hasName_take HY.out]
                cases decide (s = y) <;> simp
              case measure => have := HJN.out; omega
            · have hj : j = N.length := by have := HJN.out; omega
              subst hj
              go_wp2
              go_roundg (gB - 1)
              case rel =>
                exact ⟨k + 1, by have := HKN.out; omega, by go_num, hgr2.trans hgj, HMJ.out.congr fun t => by rw [List.take_of_length_le (Nat.le_refl _)]; exact (HSK.out t).symm⟩
              case measure => have := HKN.out; omega
        · have hk : k = l.length := by have := HKN.out; omega
          subst hk
          have hzr := hzA.grown hg (by simp; omega)
          have z0 := hzr.cell 0
          have hmr : OwnM wr mb L.length (leftS L l) := HM.out.congr fun t => by unfold leftS; rw [List.take_of_length_le (Nat.le_refl _)]
          clear HM
          go_wp2_with fail
          refine (CD.out _ hwr).mono ?_
          rintro r w3 ⟨aD, cD, rfl, hoD, hb3⟩
          have hw3 := below_then hwr hb3
          have hm3 := hmr.below hb3
          have HD := Lib.hid hoD.reads1
          have hml3 := hm3.lt
          have HR2 : Hid ([] ++ (L.drop 0).filter (leftS L l) = R) := Lib.hid (by simpa using HR.out)
          clear hoD z0 hzr hmr hb3
          go_wp2_with fail
          go_loopg [10, 45] L.length (fun n r q wr => ∃ (k : Nat) (a : Option Addr) (c : Nat) (acc : List ByteArray), k + n = L.length ∧ q = .int .i64 k ∧ r = .slice a acc.length c ∧ OwnS w3.heap.size wr a c acc ∧ Below w3.heap.size w3 wr ∧ OwnM wr mb L.length (leftS L l) ∧ acc ++ (L.drop k).filter (leftS L l) = R)
          case atStart => exact ⟨0, none, 0, [], by omega, rfl, rfl, Own.nil, Below.refl _ _, hm3, HR2.out⟩
          case round =>
            clear hm3
            obtain ⟨k, a, c, acc, hkn, rfl, rfl, ho, hb4, hm4, ha⟩ := hrel
            have HKN := Lib.hid hkn
            have HA := Lib.hid ha
            have HO := Lib.hid ho
            have HM4 := Lib.hid hm4
            have hs4 := hb4.size
            clear hkn ha ho hm4
            by_cases hlt3 : k < L.length
            · obtain ⟨x, hx⟩ := get_of_lt hlt3
              obtain ⟨b, off, rfl, hcx⟩ := (HD.out.ext (Ext.below hb4)).2.2 k x hx
              have u0 : wr.cell? ⟨b, off + k, none⟩ = some (.string x) := by simpa [StrE] using hcx
              have hxs := HNS.out x (List.mem_of_getElem? hx)
              have hlook := HM4.out.look hxs
              have hax := HA.out
              rw [filter_at hx] at hax
              obtain ⟨bv, hbv⟩ : ∃ q, leftS L l x = q := ⟨_, rfl⟩
              rw [hbv] at hlook hax
              have HAX := Lib.hid hax
              clear hx hcx hax hbv HA
              cases bv
              · have HAX2 : Hid (acc ++ (L.drop (k + 1)).filter (leftS L l) = R) := Lib.hid (by simpa using HAX.out)
                clear HAX
                go_wp2
                go_roundg (gk - 1)
                case rel => exact ⟨k + 1, a, c, acc, by have := HKN.out; omega, by go_num, rfl, HO.out, hb4, HM4.out, HAX2.out⟩
                case measure => have := HKN.out; omega
              · have HAX2 : Hid ((acc ++ [x]) ++ (L.drop (k + 1)).filter (leftS L l) = R) := Lib.hid (by rw [List.append_assoc]; simpa using HAX.out)
                have hln : (acc ++ [x]).length ≤ 16777216 := by
                  have h1 := HR2.out
                  rw [← HAX2.out] at h1
                  have h2 : ((L.drop 0).filter (leftS L l)).length ≤ L.length := by simpa using List.length_filter_le (leftS L l) L
                  have h3 := congrArg List.length h1
                  simp only [List.nil_append, List.length_append] at h3 ⊢
                  omega
                clear HAX
                go_wp2_with (at_builtin; go_must (refine append_str rfl (.tmp 52) (.tmp 54) rfl a c rfl (HO.out.alloc _) x wr.heap.size 1 rfl (by simp) (acc ++ [x]) rfl hln (by simp; omega) ?_); intro a2 c2 w5 ho5 hg5 hx5)
                go_roundg (gk - 1)
                case rel => exact ⟨k + 1, a2, c2, acc ++ [x], by have := HKN.out; omega, by go_num, by simp, ho5, below_app (hb4.alloc hb4.size _) HO.out (Nat.le_refl _) (by simp; omega) hg5, (HM4.out.alloc _).under HO.out hml3 hg5, HAX2.out⟩
                case measure => have := HKN.out; omega
            · have hr : acc = R := by rw [← HA.out, List.drop_eq_nil_of_le (by omega)]; simp
              subst hr
              go_wp2
              go_ret
              exact ⟨a, c, rfl, HO.out.base hw3.size, below_then hw3 hb4⟩
end Go.Proofs.Ytmlldjcbijoheaa

/- Walks: the names that the definition of a name uses, and on what a name depends, by the reference. -/
namespace Go.Proofs.Ytmlldjcbijoheaa
open Go.RowKit


/-- the names that the first statement uses that defines a name -/
def directL (g : Stmt → List ByteArray) : List Stmt → ByteArray → List ByteArray
  | [], _ => []
  | s :: r, n => if hasName s.names n = true then g s else directL g r n
theorem directL_at {g : Stmt → List ByteArray} {l : List Stmt} {n : ByteArray} {k : Nat} {s : Stmt} (h : l[k]? = some s) : directL g (l.drop k) n = if hasName s.names n = true then g s else directL g (l.drop (k + 1)) n := by
  have hk := lt_of_get h
  rw [List.drop_eq_getElem_cons hk]
  have : l[k] = s := by rw [List.getElem?_eq_getElem hk] at h; exact Option.some.inj h
  rw [this, directL]
theorem directL_mem {g : Stmt → List ByteArray} {l : List Stmt} {n x : ByteArray} (h : x ∈ directL g l n) : ∃ s ∈ l, x ∈ g s := by
  induction l with
  | nil => cases h
  | cons s l ih =>
    unfold directL at h
    split at h
    · exact ⟨s, List.mem_cons_self .., h⟩
    · obtain ⟨t, ht, hx⟩ := ih h; exact ⟨t, List.mem_cons_of_mem _ ht, hx⟩
theorem directL_len {l : List Stmt} (n : ByteArray) (h : ∀ s ∈ l, s.expr.count ≤ 300) : (directL usedR l n).length ≤ 300 := by
  induction l with
  | nil => simp [directL]
  | cons s l ih =>
    unfold directL
    split
    · have h1 := h s (List.mem_cons_self ..)
      have h2 := length_names s.expr
      unfold usedR
      omega
    · exact ih fun t ht => h t (List.mem_cons_of_mem _ ht)
/-- what a name depends on -/
inductive Leads (l : List Stmt) (n : ByteArray) : ByteArray → Prop
  | base {x : ByteArray} : x ∈ directL usedR l n → Leads l n x
  | step {x y : ByteArray} : Leads l n y → x ∈ directL usedR l y → Leads l n x

set_option maxRecDepth 100000 in
set_option maxHeartbeats 4000000 in
theorem direct19_any (d : Nat) (l : List Stmt) (n : ByteArray) (la : Option Addr) (lc : Nat) (w : World) (h : StmtsR d w la lc l) (hc : ∀ s ∈ l, s.expr.count ≤ 300) :
    Calls Try.prog 84 #[progVal l.length la lc, .string n] w (RetS19 (directL usedR l n) w) := by
  have HL := Lib.hid h
  have HC := Lib.hid hc
  have hll := h.len
  obtain ⟨R, hR⟩ : ∃ q, directL usedR l n = q := ⟨_, rfl⟩
  rw [hR]
  have HR : Hid (directL usedR (l.drop 0) n = R) := Lib.hid hR
  unfold progVal
  clear h hc hR
  have hb0 : Below w.heap.size w (w.alloc (.cells #[.slice la l.length lc] 52)) := by go_grown
  go_enter Try.func84, Try.ntmps84
  go_wp2
  revert hb0
  generalize w.alloc (.cells #[.slice la l.length lc] 52) = w0
  intro hb0
  go_loopg [10] l.length (fun g q wr => ∃ k : Nat, k + g = l.length ∧ q = .int .i64 k ∧ Below w.heap.size w wr ∧ directL usedR (l.drop k) n = R)
  case atStart => exact ⟨0, by omega, rfl, hb0, HR.out⟩
  case round =>
    clear hb0
    obtain ⟨k, hkg, rfl, hwr, ha⟩ := hrel
    have HKG := Lib.hid hkg
    have HA := Lib.hid ha
    clear hkg ha
    by_cases hlt : k < l.length
    · obtain ⟨x, hx⟩ := get_of_lt hlt
      obtain ⟨bx, ox, rfl, p, hC, hR⟩ := (HL.out.ext (Ext.below hwr)).2.2 k x hx
      obtain ⟨c0, c1, c2, c3, c4, c5, c6, c7, c8, c9⟩ := hC
      have hax := HA.out
      rw [directL_at hx] at hax
      have hxc := HC.out x (List.mem_of_getElem? hx)
      have CH := fun W (hW : Below wr.heap.size wr W) => has_any x.names p.sa p.sc n W (hR.names.ext (Ext.below hW))
      have CU := fun W (hW : Below wr.heap.size wr W) => (show Calls Try.prog 18 #[x.expr.val p.na p.nc p.da p.dc p.aa p.ac] W (RetOwnS W (usedR x)) from namesR_any d x.expr p.na p.nc p.da p.dc p.aa p.ac W (hR.expr.ext (Ext.below hW)) (by omega))
      obtain ⟨N, hN⟩ : ∃ q, usedR x = q := ⟨_, rfl⟩
      rw [hN] at CU hax
      obtain ⟨b, hb⟩ : ∃ q, hasName x.names n = q := ⟨_, rfl⟩
      rw [hb] at CH hax
      unfold Expr.val at CU
      have HAX := Lib.hid hax
      replace CU := Lib.hid CU
      replace CH := Lib.hid CH
      have hnl := hR.names.len
      have hxz := Blk.new wr 49 #[.int .i64 x.kind, .slice p.sa x.names.length p.sc, .int .i64 x.expr.kind, .string x.expr.name, .bool x.expr.neg, .slice p.na x.expr.num.length p.nc, .slice p.da x.expr.den.length p.dc, .slice p.aa x.expr.args.length p.ac, .int .i64 x.expr.pos, .int .i64 x.pos]
      have hbz : Below wr.heap.size wr (wr.alloc (.cells #[.int .i64 x.kind, .slice p.sa x.names.length p.sc, .int .i64 x.expr.kind, .string x.expr.name, .bool x.expr.neg, .slice p.na x.expr.num.length p.nc, .slice p.da x.expr.den.length p.dc, .slice p.aa x.expr.args.length p.ac, .int .i64 x.expr.pos, .int .i64 x.pos] 49)) := by go_grown
      clear hx hR hax hN hb HA
      go_wp2_with fail
      revert hxz hbz
      generalize wr.alloc (.cells #[.int .i64 x.kind, .slice p.sa x.names.length p.sc, .int .i64 x.expr.kind, .string x.expr.name, .bool x.expr.neg, .slice p.na x.expr.num.length p.nc, .slice p.da x.expr.den.length p.dc, .slice p.aa x.expr.args.length p.ac, .int .i64 x.expr.pos, .int .i64 x.pos] 49) = wz
      intro hxz hbz
      refine (CH.out _ hbz).mono ?_
      rintro r w1 ⟨rfl, rfl⟩
      have hwz := below_then hwr hbz
      clear c0 c1 c2 c3 c4 c5 c6 c7 c8 c9
      cases b
      · have HAX2 : Hid (directL usedR (l.drop (k + 1)) n = R) := Lib.hid (by simpa using HAX.out)
        clear HAX
        go_wp2
        go_roundg (gk - 1)
        case rel => exact ⟨k + 1, by have := HKG.out; omega, by go_num, hwz, HAX2.out⟩
        case measure => have := HKG.out; omega
      · have hNR : N = R := by simpa using HAX.out
        subst hNR
        have z2 := hxz.cell 2; have z3 := hxz.cell 3; have z4 := hxz.cell 4; have z5 := hxz.cell 5; have z6 := hxz.cell 6; have z7 := hxz.cell 7; have z8 := hxz.cell 8
        simp only [List.getElem?_toArray, List.getElem?_cons_zero, List.getElem?_cons_succ] at z2 z3 z4 z5 z6 z7 z8
        clear HAX
        go_wp2_with fail
        refine (CU.out _ hbz).mono ?_
        rintro r w2 ⟨a1, c1, rfl, ho1, hb2⟩
        go_wp2
        go_ret
        exact ⟨a1, c1, rfl, ho1.base hwz.size, below_then hwz hb2⟩
    · have hr : [] = R := by rw [← HA.out, List.drop_eq_nil_of_le (by omega)]; rfl
      subst hr
      go_wp2
      go_ret
      exact ⟨none, 0, rfl, Own.nil, hwr⟩
end Go.Proofs.Ytmlldjcbijoheaa
