/- In a right program the program's lists and the reference's are the same. No walk. -/
import Derived.Test.YtmlldjcbijoheaaKs16

/- Walk: scope.Depends. -/
namespace Go.Proofs.Ytmlldjcbijoheaa
open Go.RowKit


theorem atFrom_some {n : ByteArray} : ∀ {l : List Stmt} {i : Nat}, hasName (namesOf (fun _ => true) l) n = true → ∃ (k : Nat) (x : Stmt), atFrom n i l = ((i + k : Nat) : Int) ∧ l[k]? = some x ∧ hasName x.names n = true ∧ ∀ (j : Nat) (y : Stmt), j < k → l[j]? = some y → hasName y.names n = false
  | [], i, h => by simp [namesOf, hasName] at h
  | s :: r, i, h => by
    by_cases hs : hasName s.names n = true
    · exact ⟨0, s, by rw [atFrom, if_pos hs]; simp, rfl, hs, fun j y hj => absurd hj (Nat.not_lt_zero _)⟩
    · have h2 : hasName (namesOf (fun _ => true) r) n = true := by
        rw [hasName_iff] at h ⊢
        unfold namesOf at h
        rw [if_pos rfl] at h
        rcases List.mem_append.1 h with h | h
        · exact absurd (hasName_iff.2 h) hs
        · exact h
      obtain ⟨k, x, h3, h4, h5, h6⟩ := atFrom_some (i := i + 1) h2
      refine ⟨k + 1, x, by rw [atFrom, if_neg hs, h3]; congr 1; omega, h4, h5, fun j y hj hy => ?_⟩
      cases j with
      | zero => simp at hy; subst hy; simpa using hs
      | succ j => exact h6 j y (by omega) hy
theorem atFrom_none {n : ByteArray} : ∀ {l : List Stmt} {i : Nat}, hasName (namesOf (fun _ => true) l) n = false → atFrom n i l = -1
  | [], i, _ => rfl
  | s :: r, i, h => by
    have hn : n ∉ namesOf (fun _ => true) (s :: r) := fun e => by rw [hasName_iff.2 e] at h; cases h
    unfold namesOf at hn
    rw [if_pos rfl] at hn
    have hs : ¬ hasName s.names n = true := fun e => hn (List.mem_append_left _ (hasName_iff.1 e))
    rw [atFrom, if_neg hs]
    refine atFrom_none ?_
    cases hq : hasName (namesOf (fun _ => true) r) n with
    | false => rfl
    | true => exact absurd (List.mem_append_right _ (hasName_iff.1 hq)) hn
/-- the set of names behind the statements from the number m - 1 down to 0 -/
def depDown (l : List Stmt) : Nat → (ByteArray → Bool) → (ByteArray → Bool)
  | 0, S => S
  | m + 1, S => depDown l m (match l[m]? with | some s => if s.names.any S = true then (fun t => hasName (usedS s) t || S t) else S | none => S)
theorem depDown_at {l : List Stmt} {m : Nat} {s : Stmt} {S : ByteArray → Bool} (h : l[m]? = some s) : depDown l (m + 1) S = depDown l m (if s.names.any S = true then (fun t => hasName (usedS s) t || S t) else S) := by
  rw [depDown, h]

set_option maxRecDepth 100000 in
set_option maxHeartbeats 8000000 in
theorem dependsS_any (d : Nat) (l : List Stmt) (n : ByteArray) (la : Option Addr) (lc : Nat) (w : World) (h : StmtsR d w la lc l) (hl : l.length ≤ 40) (hc : ∀ s ∈ l, s.expr.count ≤ 300 ∧ s.names.length ≤ 40) (hs : ∀ s ∈ l, ∀ n ∈ s.names, n.size ≤ maxLen)
    (k0 : Nat) (x0 : Stmt) (hat : atFrom n 0 l = (k0 : Int)) (hx0 : l[k0]? = some x0) :
    Calls Try.prog 44 #[progVal l.length la lc, .string n] w fun e w' => ∃ a c, e = .returned (.tuple #[.slice a ((namesOf (takesS 0) l).filter (depDown l k0 (hasName (usedS x0)))).length c, .int .i64 0]) ∧ OwnS w.heap.size w' a c ((namesOf (takesS 0) l).filter (depDown l k0 (hasName (usedS x0)))) ∧ Below w.heap.size w w' := by
  have hnl := namesOf_length (g := takesS 0) fun x hx => (hc x hx).2
  have hns : ∀ n ∈ namesOf (takesS 0) l, n.size ≤ maxLen := fun n hn => by obtain ⟨s, h1, h2⟩ := namesOf_mem hn; exact hs s h1 n h2
  have CD := fun W (hW : Below w.heap.size w W) => definedS_any d l 0 la lc W (h.ext (Ext.below hW)) (by omega)
  have CI := fun W (hW : Below w.heap.size w W) g hg => indexDef_any d l n g la lc W (h.ext (Ext.below hW)) hg
  rw [hat] at CI
  obtain ⟨F, hF⟩ : ∃ q, depDown l k0 (hasName (usedS x0)) = q := ⟨_, rfl⟩
  rw [hF]
  obtain ⟨R, hR⟩ : ∃ q, (namesOf (takesS 0) l).filter F = q := ⟨_, rfl⟩
  rw [hR]
  revert CD hR hnl hns
  generalize namesOf (takesS 0) l = L
  intro hnl hns CD hR
  have HR := Lib.hid hR
  have HF := Lib.hid hF
  have HNS := Lib.hid hns
  have HL := Lib.hid h
  have HC := Lib.hid hc
  have HSZ := Lib.hid hs
  have hll := h.len
  have hLl : L.length ≤ 1600 := by omega
  have hk0 := lt_of_get hx0
  unfold progVal at CD ⊢
  replace CD := Lib.hid CD
  replace CI := Lib.hid CI
  obtain ⟨bx0, ox0, hla, p0, hC0, hR0⟩ := h.2.2 k0 x0 hx0
  subst hla
  have hus0 := usedS_size hR0
  have hul0 : (usedS x0).length ≤ 300 := by unfold usedS; split; simp; have := length_names x0.expr; have := (hc x0 (List.mem_of_getElem? hx0)).1; omega
  have CU0 := fun W (hW : Below w.heap.size w W) => used_any d x0 p0 W (hR0.ext (Ext.below hW)) (by have := (hc x0 (List.mem_of_getElem? hx0)).1; omega)
  revert CU0 hus0 hul0 HF
  generalize usedS x0 = N0
  intro HF hus0 hul0 CU0
  unfold Stmt.val at CU0
  replace CU0 := Lib.hid CU0
  have HUS0 := Lib.hid hus0
  have HC0 := Lib.hid hC0
  clear h hc hR hF hns hs hnl hat hx0 hC0 hR0 hus0
  have hz := (Blk.new w 52 #[.slice (some ⟨bx0, ox0, none⟩) l.length lc]).alloc (.cells #[.string n] 9)
  have hy := blk_at1 w (.cells #[.slice (some ⟨bx0, ox0, none⟩) l.length lc] 52) 9 #[.string n]
  have hb0 : Below w.heap.size w ((w.alloc (.cells #[.slice (some ⟨bx0, ox0, none⟩) l.length lc] 52)).alloc (.cells #[.string n] 9)) := by go_grown
  have hmm := @run_makeMap Try.prog
  go_enter Try.func44, Try.ntmps44
  go_wp2_with fail
  revert hz hy hb0
  generalize (w.alloc (.cells #[.slice (some ⟨bx0, ox0, none⟩) l.length lc] 52)).alloc (.cells #[.string n] 9) = w0
  intro hz hy hb0
  have y0 : w0.cell? ⟨w.heap.size + 1, 0, none⟩ = some (.string n) := hy.cell 0
  refine (CI.out _ hb0 _ y0).mono ?_
  rintro r w1 ⟨rfl, hb1⟩
  have hw1 := below_then hb0 hb1
  have hz1 := hz.below' hb1
  have z0 := hz1.cell 0
  have hzl := hz1.lt
  have hzl2 : w.heap.size < w1.heap.size + 1 := by omega
  have hzl3 : w.heap.size < w1.heap.size + 1 + 1 := by omega
  have hk0i : ¬ ((k0 : Int) < 0) := by omega
  have hk0l : (k0 : Int) < (l.length : Int) := by omega
  obtain ⟨c0, c1, c2, c3, c4, c5, c6, c7, c8, c9⟩ := HC0.out.ext (Ext.below hw1)
  have hbx0 : bx0 < w1.heap.size := World.block_lt_of_cell? _ _ c0
  have hbx1 : bx0 < w1.heap.size + 1 := by omega
  have hm := OwnM.made w1
  have hmA := hm.alloc (.cells #[.map (some w1.heap.size)] 100)
  have hgA : Blk ((w1.alloc (.map #[] 0)).alloc (.cells #[.map (some w1.heap.size)] 100)) (w1.heap.size + 1) 100 #[.map (some w1.heap.size)] := by have := Blk.new (w1.alloc (.map #[] 0)) 100 #[.map (some w1.heap.size)]; simpa using this
  have hzA := (hz1.alloc (.map #[] 0)).alloc (.cells #[.map (some w1.heap.size)] 100)
  have hbA : Below w1.heap.size w1 ((w1.alloc (.map #[] 0)).alloc (.cells #[.map (some w1.heap.size)] 100)) := by go_grown
  have hy1 := hy.below' hb1
  clear y0 hy hz hb0 hb1 hm hz1 CI
  go_wp2_with fail
  have hmbw : w.heap.size + 2 ≤ w1.heap.size := by have := hw1.size; have := hy1.lt; omega
  revert hmA hgA hzA hbA
  generalize (w1.alloc (.map #[] 0)).alloc (.cells #[.map (some w1.heap.size)] 100) = wM
  obtain ⟨mb, hmb⟩ : ∃ q, q = w1.heap.size := ⟨_, rfl⟩
  rw [← hmb]
  obtain ⟨gm, hgm⟩ : ∃ q, q = mb + 1 := ⟨_, rfl⟩
  rw [← hgm]
  intro hmA hgA hzA hbA
  have hwM := hw1.trans (hbA.mono (by omega))
  have hgml := hgA.lt
  have hmgm : mb ≠ gm := by omega
  have hmw : w.heap.size < mb := by omega
  replace hmb := Lib.hid hmb; replace hgm := Lib.hid hgm
  clear c0 c1 c2 c3 c4 c5 c6 c7 c8 c9 z0 hzl hzl2 hzl3 hbx0 hbx1 hbA hmbw
  refine (CU0.out _ hwM).mono ?_
  rintro r w2 ⟨a1, cN, rfl, hoN, hb2⟩
  have hw2 := below_then hwM hb2
  have hm2 := hmA.below hb2
  have hg2 := hgA.below' hb2
  have hz2 := hzA.below' hb2
  have hmlM := hmA.lt
  have HON := Lib.hid hoN
  clear hmA hgA hzA hb2 hoN CU0 hy1
  go_wp2_with fail
  go_loopg [31] N0.length (fun m q wr => ∃ j : Nat, j + m = N0.length ∧ q = .int .i64 j ∧ w2.grownBy wr (some mb) ∧ OwnM wr mb j (fun t => hasName (N0.take j) t))
  case atStart => exact ⟨0, by omega, rfl, but_refl _ _, hm2.congr fun _ => rfl⟩
  case round =>
    obtain ⟨j, hjn, rfl, hg, hmr⟩ := hrel
    have HJN := Lib.hid hjn
    have HM := Lib.hid hmr
    have hgr := hg2.grown hg (by simp; omega)
    have y0 := hgr.cell 0
    clear hjn hmr
    by_cases hlt : j < N0.length
    · obtain ⟨x, hx⟩ := get_of_lt hlt
      obtain ⟨g, rfl, hgB, hgl, u0⟩ := OwnS.at1 (HON.out.but hg hmlM) hx
      have hxs := HUS0.out x (List.mem_of_getElem? hx)
      have HX := Lib.hid hx
      clear hx
      go_wp2_with (at_mapUpdate; go_must (refine map_put rfl (.tmp 35) (.tmp 36) (.const (.bool true)) rfl rfl HM.out (by omega) x hxs rfl rfl ?_); intro w3 hm3 hg3)
      go_roundg (gk - 1)
      case rel => exact ⟨j + 1, by have := HJN.out; omega, by go_num, hg.trans hg3, hm3.congr fun s => by rw [hasName_take HX.out]⟩
      case measure => have := HJN.out; omega
    · have hj : j = N0.length := by have := HJN.out; omega
      subst hj
      have hwA := below_but hw2 hg (by omega) hw2.size
      have hzA := hz2.grown hg (by simp; omega)
      have hmA : OwnM wr mb N0.length (hasName N0) := HM.out.congr fun s => by rw [List.take_of_length_le (Nat.le_refl _)]
      have hmlA := hmA.lt
      have hgAl := hgr.lt
      have HZA := Lib.hid hzA
      have HGA := Lib.hid hgr
      obtain ⟨wA, rfl⟩ : ∃ q : World, q = wr := ⟨_, rfl⟩
      obtain ⟨gA, rfl⟩ : ∃ q : Nat, q = gk := ⟨_, rfl⟩
      clear HM HON hz2 hm2 hw2 hg2 hg hmlM HJN y0 hgr hzA
      go_wp2_with fail
      go_loopg [10] k0 (fun m q wr => ∃ (S : ByteArray → Bool) (cnt : Nat), m ≤ k0 ∧ q = .int .i64 ((m : Int) - 1) ∧ wA.grownBy wr (some mb) ∧ OwnM wr mb cnt S ∧ cnt + 300 * m ≤ 300 * k0 + 300 ∧ depDown l m S = F)
      case atStart => exact ⟨hasName N0, N0.length, Nat.le_refl _, rfl, but_refl _ _, hmA, by omega, HF.out⟩
      case round =>
        clear hmA
        obtain ⟨S, cnt, hmk, rfl, hg, hmr, hcnt, hdep⟩ := hrel
        have hwr := below_but hwA hg (by omega) hwA.size
        have hzr := HZA.out.grown hg (by simp; omega)
        have hgr := HGA.out.grown hg (by simp; omega)
        have hmlr := hmr.lt
        have hglr := hgr.lt
        have HM := Lib.hid hmr
        have HDEP := Lib.hid hdep
        clear hmr hdep
        by_cases h0 : gk = 0
        · subst h0
          have hSF : S = F := HDEP.out
          subst hSF
          have hn1 : ¬ ((0 : Int) ≤ (((0 : Nat) : Int) - 1)) := by omega
          have hn2 : (((0 : Nat) : Int) - 1) < 0 := by omega
          have z0 := hzr.cell 0
          go_wp2_with fail
          refine (CD.out _ hwr).mono ?_
          rintro r w3 ⟨aD, cD, rfl, hoD, hb3⟩
          have hw3 := below_then hwr hb3
          have hm3 := HM.out.below hb3
          have hg3 := hgr.below' hb3
          have HD := Lib.hid hoD.reads1
          have hml3 := hm3.lt
          have hgl3 := hg3.lt
          have HR2 : Hid ([] ++ (L.drop 0).filter S = R) := Lib.hid (by simpa using HR.out)
          clear hoD z0 hzr hb3 HM hgr
          go_wp2_with fail
          go_loopg [14, 67] L.length (fun n r q wr => ∃ (k : Nat) (a : Option Addr) (c : Nat) (acc : List ByteArray), k + n = L.length ∧ q = .int .i64 k ∧ r = .slice a acc.length c ∧ OwnS w3.heap.size wr a c acc ∧ Below w3.heap.size w3 wr ∧ OwnM wr mb cnt S ∧ acc ++ (L.drop k).filter S = R)
          case atStart => exact ⟨0, none, 0, [], by omega, rfl, rfl, Own.nil, Below.refl _ _, hm3, HR2.out⟩
          case round =>
            clear hm3
            obtain ⟨k, a, c, acc, hkn, rfl, rfl, ho, hb4, hm4, ha⟩ := hrel
            have HKN := Lib.hid hkn
            have HA := Lib.hid ha
            have HO := Lib.hid ho
            have HM4 := Lib.hid hm4
            have hs4 := hb4.size
            have y0 := (hg3.below' hb4).cell 0
            clear hkn ha ho hm4
            by_cases hlt3 : k < L.length
            · obtain ⟨x, hx⟩ := get_of_lt hlt3
              obtain ⟨b, off, rfl, hcx⟩ := (HD.out.ext (Ext.below hb4)).2.2 k x hx
              have u0 : wr.cell? ⟨b, off + k, none⟩ = some (.string x) := by simpa [StrE] using hcx
              have hxs := HNS.out x (List.mem_of_getElem? hx)
              have hlook := HM4.out.look hxs
              have hax := HA.out
              rw [filter_at hx] at hax
              obtain ⟨bv, hbv⟩ : ∃ q, S x = q := ⟨_, rfl⟩
              rw [hbv] at hlook hax
              have HAX := Lib.hid hax
              clear hx hcx hax hbv HA
              cases bv
              · have HAX2 : Hid (acc ++ (L.drop (k + 1)).filter S = R) := Lib.hid (by simpa using HAX.out)
                clear HAX
                go_wp2
                go_roundg (gk - 1)
                case rel => exact ⟨k + 1, a, c, acc, by have := HKN.out; omega, by go_num, rfl, HO.out, hb4, HM4.out, HAX2.out⟩
                case measure => have := HKN.out; omega
              · have HAX2 : Hid ((acc ++ [x]) ++ (L.drop (k + 1)).filter S = R) := Lib.hid (by rw [List.append_assoc]; simpa using HAX.out)
                have hln : (acc ++ [x]).length ≤ 16777216 := by
                  have h1 := HR2.out
                  rw [← HAX2.out] at h1
                  have h2 : ((L.drop 0).filter S).length ≤ L.length := by simpa using List.length_filter_le S L
                  have h3 := congrArg List.length h1
                  simp only [List.nil_append, List.length_append] at h3 ⊢
                  omega
                clear HAX
                go_wp2_with (at_builtin; go_must (refine append_str rfl (.tmp 74) (.tmp 76) rfl a c rfl (HO.out.alloc _) x wr.heap.size 1 rfl (by simp) (acc ++ [x]) rfl hln (by simp; omega) ?_); intro a2 c2 w5 ho5 hg5 hx5)
                go_roundg (gk - 1)
                case rel => exact ⟨k + 1, a2, c2, acc ++ [x], by have := HKN.out; omega, by go_num, by simp, ho5, below_app (hb4.alloc hb4.size _) HO.out (Nat.le_refl _) (by simp; omega) hg5, (HM4.out.alloc _).under HO.out hml3 hg5, HAX2.out⟩
                case measure => have := HKN.out; omega
            · have hr : acc = R := by rw [← HA.out, List.drop_eq_nil_of_le (by omega)]; simp
              subst hr
              go_wp2
              refine bodyPost_ret (v := .tuple #[.slice a acc.length c, .int .i64 0]) (by simp [results, Try.results44, go_sem]) rfl ?_
              exact ⟨a, c, rfl, HO.out.base hw3.size, below_then hw3 hb4⟩
        · obtain ⟨m, rfl⟩ : ∃ m, gk = m + 1 := ⟨gk - 1, by omega⟩
          have e1 : (((m + 1 : Nat) : Int) - 1) = (m : Int) := by omega
          rw [e1]
          clear e1
          have hml : m < l.length := by omega
          obtain ⟨x, hx⟩ := get_of_lt hml
          obtain ⟨bx, ox, hbo, p, hC, hR⟩ := (HL.out.ext (Ext.below hwr)).2.2 m x hx
          injection hbo with hbo
          injection hbo with hbo1 hbo2
          subst hbo1
          subst hbo2
          obtain ⟨c0, c1, c2, c3, c4, c5, c6, c7, c8, c9⟩ := hC
          have hxc := (HC.out x (List.mem_of_getElem? hx)).1
          have hxz := Blk.new wr 49 #[.int .i64 x.kind, .slice p.sa x.names.length p.sc, .int .i64 x.expr.kind, .string x.expr.name, .bool x.expr.neg, .slice p.na x.expr.num.length p.nc, .slice p.da x.expr.den.length p.dc, .slice p.aa x.expr.args.length p.ac, .int .i64 x.expr.pos, .int .i64 x.pos]
          have hbz : Below wr.heap.size wr (wr.alloc (.cells #[.int .i64 x.kind, .slice p.sa x.names.length p.sc, .int .i64 x.expr.kind, .string x.expr.name, .bool x.expr.neg, .slice p.na x.expr.num.length p.nc, .slice p.da x.expr.den.length p.dc, .slice p.aa x.expr.args.length p.ac, .int .i64 x.expr.pos, .int .i64 x.pos] 49)) := by go_grown
          have CA := anyNeed_any x.names gm mb cnt S p.sa p.sc (wr.alloc (.cells #[.int .i64 x.kind, .slice p.sa x.names.length p.sc, .int .i64 x.expr.kind, .string x.expr.name, .bool x.expr.neg, .slice p.na x.expr.num.length p.nc, .slice p.da x.expr.den.length p.dc, .slice p.aa x.expr.args.length p.ac, .int .i64 x.expr.pos, .int .i64 x.pos] 49)) (hR.names.ext (Ext.below hbz)) (HSZ.out x (List.mem_of_getElem? hx)) ((hgr.alloc _).cell 0) (HM.out.alloc _)
          have CU := fun W (hW : Below wr.heap.size wr W) => used_any d x p W (hR.ext (Ext.below hW)) (by omega)
          have hus := usedS_size hR
          have hul : (usedS x).length ≤ 300 := by unfold usedS; split; simp; have := length_names x.expr; omega
          have hdx := HDEP.out
          rw [depDown_at hx] at hdx
          have hnl := hR.names.len
          unfold Stmt.val at CU
          revert CU hus hul hdx
          generalize usedS x = N
          intro CU hus hul hdx
          obtain ⟨bv, hbv⟩ : ∃ q, x.names.any S = q := ⟨_, rfl⟩
          rw [hbv] at CA hdx
          have HDX := Lib.hid hdx
          have HUS := Lib.hid hus
          replace CU := Lib.hid CU
          replace CA := Lib.hid CA
          have z0 := hzr.cell 0
          have hzlr := hzr.lt
          clear hx hR hus hdx hbv HDEP
          go_wp2_with fail
          refine CA.out.mono ?_
          rintro r w3 ⟨rfl, rfl⟩
          have hgz := hgr.below' hbz
          have hmz := HM.out.below hbz
          have hgaz := but_below hg hbz
          revert hxz hbz hgz hmz hgaz
          generalize wr.alloc (.cells #[.int .i64 x.kind, .slice p.sa x.names.length p.sc, .int .i64 x.expr.kind, .string x.expr.name, .bool x.expr.neg, .slice p.na x.expr.num.length p.nc, .slice p.da x.expr.den.length p.dc, .slice p.aa x.expr.args.length p.ac, .int .i64 x.expr.pos, .int .i64 x.pos] 49) = wz
          intro hxz hbz hgz hmz hgaz
          have HMZ := Lib.hid hmz
          have hmlz := hmz.lt
          clear c0 c1 c2 c3 c4 c5 c6 c7 c8 c9 z0 HM CA hmz
          cases bv
          · have hdx2 : depDown l m S = F := by simpa using HDX.out
            have HDX2 := Lib.hid hdx2
            clear HDX hdx2
            go_wp2
            go_roundg m
            case rel => exact ⟨S, cnt, by omega, by first | rfl | go_num, hgaz, HMZ.out, by omega, HDX2.out⟩
            case measure => omega
          · have hdx2 : depDown l m (fun t => hasName N t || S t) = F := by simpa using HDX.out
            have HDX2 := Lib.hid hdx2
            have k0' := hxz.cell 0; have k1' := hxz.cell 1; have k2 := hxz.cell 2; have k3 := hxz.cell 3; have k4 := hxz.cell 4; have k5 := hxz.cell 5; have k6 := hxz.cell 6; have k7 := hxz.cell 7; have k8 := hxz.cell 8; have k9 := hxz.cell 9
            simp only [List.getElem?_toArray, List.getElem?_cons_zero, List.getElem?_cons_succ] at k0' k1' k2 k3 k4 k5 k6 k7 k8 k9
            clear HDX hdx2
            go_wp2_with fail
            refine (CU.out _ hbz).mono ?_
            rintro r w4 ⟨a1, c1', rfl, ho1, hb4⟩
            have hga4 := but_below hgaz hb4
            have hm4 := HMZ.out.below hb4
            have hg4 := hgz.below' hb4
            have HO1 := Lib.hid ho1
            clear k0' k1' k2 k3 k4 k5 k6 k7 k8 k9 HMZ CU hbz hb4 ho1 hxz
            obtain ⟨wq, rfl⟩ : ∃ q : World, q = wr := ⟨_, rfl⟩
            go_wp2_with fail
            go_loopg [57] N.length (fun n q wr => ∃ j : Nat, j + n = N.length ∧ q = .int .i64 j ∧ w4.grownBy wr (some mb) ∧ OwnM wr mb (cnt + j) (fun t => hasName (N.take j) t || S t))
            case atStart => exact ⟨0, by omega, rfl, but_refl _ _, hm4.congr fun t => by simp [hasName]⟩
            case round =>
              clear hm4
              obtain ⟨j, hjn, rfl, hgj, hmj⟩ := hrel
              have HJN := Lib.hid hjn
              have HMJ := Lib.hid hmj
              have y0 := (hg4.grown hgj (by simp; omega)).cell 0
              clear hjn hmj
              by_cases hjl : j < N.length
              · obtain ⟨y, hy⟩ := get_of_lt hjl
                obtain ⟨g, rfl, hgB, hgl, u0⟩ := OwnS.at1 (HO1.out.but hgj hmlz) hy
                have hys := HUS.out y (List.mem_of_getElem? hy)
                have HY := Lib.hid hy
                clear hy
                go_wp2_with (at_mapUpdate; go_must (refine map_put rfl (.tmp 61) (.tmp 62) (.const (.bool true)) rfl rfl HMJ.out (by omega) y hys rfl rfl ?_); intro w5 hm5 hg5)
                go_roundg (gk - 1)
                case rel =>
                  refine ⟨j + 1, by have := HJN.out; omega, by go_num, hgj.trans hg5, hm5.congr fun s => ?_⟩
                  rw [hasName_take HY.out, Bool.or_assoc]
                case measure => have := HJN.out; omega
              · have hj : j = N.length := by have := HJN.out; omega
                subst hj
                have HMF : Hid (OwnM wr mb (cnt + N.length) (fun t => hasName N t || S t)) := Lib.hid (HMJ.out.congr fun t => by rw [List.take_of_length_le (Nat.le_refl _)])
                clear HMJ y0
                go_wp2
                go_roundg m
                case rel => exact ⟨fun t => hasName N t || S t, cnt + N.length, by omega, by first | rfl | go_num, hga4.trans hgj, HMF.out, by omega, HDX2.out⟩
                case measure => omega
end Go.Proofs.Ytmlldjcbijoheaa

/- In a right program the program's lists and the reference's are the same. No walk. -/
namespace Go.Proofs.Ytmlldjcbijoheaa
open Go.RowKit

theorem progErr_at0 {p : List Stmt} : ∀ {r : List Stmt} {i : Nat}, progErr p i r = 0 → ∀ (k : Nat) (x : Stmt), r[k]? = some x → x.behind (p.take (i + k)) = 0
  | [], _, _, k, x, hx => by simp at hx
  | s :: r, i, h, k, x, hx => by
    rw [progErr] at h
    split at h
    · rename_i hn; exact absurd h hn
    · rename_i hn
      cases k with
      | zero => simp at hx; subst hx; simpa using hn
      | succ k =>
        have := progErr_at0 h k x (by simpa using hx)
        rwa [show i + 1 + k = i + (k + 1) by omega] at this
theorem behind_zero {l : List Stmt} {s : Stmt} (h : s.behind l = 0) : s.err = 0 ∧ (s.kind ≠ 1 → s.expr.uses l (stmtSort s.kind) = 0) ∧ twices l s.names 0 s.names = false := by
  unfold Stmt.behind at h
  split at h
  · rename_i hn; exact absurd h hn
  · rename_i h1
    split at h
    · rename_i hn; exact absurd h hn.2
    · rename_i h2
      split at h
      · omega
      · rename_i h3
        refine ⟨by simpa using h1, fun hk => ?_, by simpa using h3⟩
        by_cases hu : s.expr.uses l (stmtSort s.kind) = 0
        · exact hu
        · exact absurd ⟨hk, hu⟩ h2
theorem params_name : (findRow 1).params = [] := by decide
theorem headErr_len {k : Int} {n : ByteArray} {r : Rt} {len : Nat} {s : Int} (h : headErr k n r len s = 0) : len = (findRow k).params.length := by
  unfold headErr at h
  split at h
  · omega
  · split at h
    · omega
    · split at h
      · omega
      · rename_i h3
        by_cases hl : len = (findRow k).params.length
        · exact hl
        · exact absurd (Or.inr hl) h3
theorem useErr_zero {q s : Int} (h : useErr q s = 0) : q ≠ 0 := by
  intro e
  unfold useErr at h
  rw [if_pos e] at h
  omega
mutual
theorem uses_names (l : List Stmt) : ∀ (e : Expr) (s : Int), e.err s = 0 → e.uses l s = 0 → ∀ n ∈ e.names, definedS l n ≠ 0
  | .mk k nm neg num den args pos, s, he, hu, n, hn => by
    rw [Expr.err] at he
    split at he
    · rename_i hh; exact absurd he hh
    · rename_i hh
      have hlen := headErr_len (by simpa using hh)
      rw [Expr.uses] at hu
      rw [Expr.names] at hn
      by_cases hk : k = 1
      · rw [if_pos hk] at hu hn
        have ha : args = [] := by
          rw [hk, params_name] at hlen
          exact List.length_eq_zero_iff.1 (by simpa using hlen)
        subst ha
        simp [Expr.namess] at hn
        subst hn
        exact useErr_zero hu
      · rw [if_neg hk] at hu hn
        rcases mem_namess hn with h | ⟨x, hx, h⟩
        · cases h
        · exact usess_names l args _ he hu x hx n h
theorem usess_names (l : List Stmt) : ∀ (es : List Expr) (ps : List Int), Expr.errs es ps = 0 → Expr.usess l es ps = 0 → ∀ e ∈ es, ∀ n ∈ e.names, definedS l n ≠ 0
  | [], _, _, _, e, h, _, _ => by cases h
  | x :: es, ps, he, hu, e, h, n, hn => by
    rw [Expr.errs] at he
    rw [Expr.usess] at hu
    split at he
    · rename_i hh; exact absurd he hh
    · rename_i hh
      split at hu
      · rename_i hv; exact absurd hu hv
      · rename_i hv
        rcases List.mem_cons.1 h with hex | h
        · rw [hex] at hn
          exact uses_names l x _ (by simpa using hh) (by simpa using hv) n hn
        · exact usess_names l es _ he hu e h n hn
end
theorem definedS_some {l : List Stmt} {n : ByteArray} (h : definedS l n ≠ 0) : ∃ s ∈ l, n ∈ s.names := by
  induction l with
  | nil => exact absurd rfl h
  | cons s l ih =>
    unfold definedS at h
    split at h
    · rename_i hs; exact ⟨s, List.mem_cons_self .., hasName_iff.1 hs⟩
    · obtain ⟨t, ht, hn⟩ := ih h; exact ⟨t, List.mem_cons_of_mem _ ht, hn⟩
theorem definedS_none {l : List Stmt} {n : ByteArray} (he : ∀ s ∈ l, s.err = 0) (h : definedS l n = 0) : ∀ s ∈ l, n ∉ s.names := by
  induction l with
  | nil => intro s hs; cases hs
  | cons s l ih =>
    unfold definedS at h
    split at h
    · rename_i hs
      have := err_names (he s (List.mem_cons_self ..)) h
      rw [this] at hs
      simp [hasName] at hs
    · rename_i hs
      intro t ht hn
      rcases List.mem_cons.1 ht with rfl | ht
      · exact hs (hasName_iff.2 hn)
      · exact ih (fun u hu => he u (List.mem_cons_of_mem _ hu)) h t ht hn
theorem twices_none {l : List Stmt} {names : List ByteArray} : ∀ {r : List ByteArray} {i : Nat}, twices l names i r = false → ∀ n ∈ r, definedS l n = 0
  | [], _, _, n, h => by cases h
  | x :: r, i, h, n, hn => by
    rw [twices, Bool.or_eq_false_iff] at h
    rcases List.mem_cons.1 hn with rfl | hn
    · have h1 := h.1
      unfold twiceB at h1
      rw [Bool.or_eq_false_iff] at h1
      simpa using h1.1
    · exact twices_none h.2 n hn
theorem empty_names {e : Expr} (h : e.emptyB = true) : e.names = [] := by
  unfold Expr.emptyB at h
  simp only [Bool.and_eq_true, decide_eq_true_eq] at h
  rw [Expr.names_eq, if_neg (by omega), List.length_eq_zero_iff.1 h.2]
  rfl
theorem err_empty {s : Stmt} (h : s.err = 0) (hk : s.kind = 1) : s.expr.emptyB = true := by
  unfold Stmt.err at h
  repeat' split at h
  all_goals first | omega | skip
  all_goals simp_all
theorem used_same {s : Stmt} (h : s.err = 0) : usedS s = usedR s := by
  unfold usedS usedR
  split
  · rename_i hk
    rw [empty_names (err_empty h hk)]
  · rfl

/-- what is known of a right program -/
structure Rgt (l : List Stmt) : Prop where
  err : ∀ x ∈ l, x.err = 0
  used : ∀ (k : Nat) (x : Stmt), l[k]? = some x → ∀ n ∈ usedR x, ∃ (j : Nat) (y : Stmt), j < k ∧ l[j]? = some y ∧ n ∈ y.names
  uniq : ∀ (k j : Nat) (x y : Stmt) (n : ByteArray), l[k]? = some x → l[j]? = some y → j < k → n ∈ x.names → n ∉ y.names
theorem rgt_of {l : List Stmt} (h : rightP l = true) : Rgt l := by
  have hp : progErr l 0 l = 0 := by unfold rightP at h; simp only [Bool.and_eq_true, decide_eq_true_eq] at h; exact h.2
  have hb := fun (k : Nat) (x : Stmt) (hx : l[k]? = some x) => behind_zero (by have := progErr_at0 hp k x hx; rwa [Nat.zero_add] at this)
  have he : ∀ x ∈ l, x.err = 0 := fun x hx => rightP_err h hx
  refine ⟨he, fun k x hx n hn => ?_, fun k j x y n hx hy hjk hnx hny => ?_⟩
  · obtain ⟨h1, h2, h3⟩ := hb k x hx
    by_cases hk : x.kind = 1
    · unfold usedR at hn
      rw [empty_names (err_empty h1 hk)] at hn
      cases hn
    · have := uses_names (l.take k) x.expr _ (Stmt.err_zero h1 hk) (h2 hk) n hn
      obtain ⟨y, hy, hny⟩ := definedS_some this
      obtain ⟨j, hj⟩ := List.mem_iff_getElem?.1 hy
      have hjl := lt_of_get hj
      simp at hjl
      rw [List.getElem?_take_of_lt (by omega)] at hj
      exact ⟨j, y, by omega, hj, hny⟩
  · obtain ⟨h1, h2, h3⟩ := hb k x hx
    have hd := twices_none h3 n hnx
    have hym : y ∈ l.take k := List.mem_iff_getElem?.2 ⟨j, by rw [List.getElem?_take_of_lt hjk]; exact hy⟩
    exact definedS_none (fun s hs => he s (List.mem_of_mem_take hs)) hd y hym hny
theorem direct_of {l : List Stmt} (R : Rgt l) {k : Nat} {x : Stmt} {n : ByteArray} (hx : l[k]? = some x) (hn : n ∈ x.names) : directL usedR l n = usedR x := by
  have key : ∀ (m : Nat), m ≤ k → directL usedR (l.drop (k - m)) n = usedR x := by
    intro m
    induction m with
    | zero => intro _; rw [Nat.sub_zero, directL_at hx, if_pos (hasName_iff.2 hn)]
    | succ m ih =>
      intro hm
      obtain ⟨y, hy⟩ := get_of_lt (xs := l) (k := k - (m + 1)) (by have := lt_of_get hx; omega)
      have hny := R.uniq k (k - (m + 1)) x y n hx hy (by omega) hn
      rw [directL_at hy, if_neg (fun e => hny (hasName_iff.1 e)), show k - (m + 1) + 1 = k - m by omega]
      exact ih (by omega)
  have := key k (Nat.le_refl _)
  rwa [Nat.sub_self] at this
theorem any_iff {S : ByteArray → Bool} {l : List ByteArray} : l.any S = true ↔ ∃ x ∈ l, S x = true := by simp
theorem depDown_leads {l : List Stmt} (R : Rgt l) (n : ByteArray) : ∀ (m : Nat) (S : ByteArray → Bool), (∀ t, S t = true → Leads l n t) → ∀ t, depDown l m S t = true → Leads l n t
  | 0, _, h, t, ht => h t ht
  | m + 1, S, h, t, ht => by
    rw [depDown] at ht
    refine depDown_leads R n m _ ?_ t ht
    intro u hu
    cases hx : l[m]? with
    | none => rw [hx] at hu; exact h u hu
    | some s =>
      rw [hx] at hu
      dsimp only at hu
      split at hu
      · rename_i ha
        obtain ⟨x, hxs, hSx⟩ := any_iff.1 ha
        rcases Bool.or_eq_true _ _ ▸ hu with hu | hu
        · rw [used_same (R.err s (List.mem_of_getElem? hx)), hasName_iff] at hu
          exact .step (h x hSx) (by rw [direct_of R hx hxs]; exact hu)
        · exact h u hu
      · exact h u hu
/-- the set holds what is defined ahead of k0, and is closed from m on -/
structure Clo (l : List Stmt) (k0 m : Nat) (S : ByteArray → Bool) : Prop where
  low : ∀ t, S t = true → ∃ (j : Nat) (y : Stmt), j < k0 ∧ l[j]? = some y ∧ t ∈ y.names
  clo : ∀ (j : Nat) (y : Stmt), m ≤ j → l[j]? = some y → y.names.any S = true → j < k0 → ∀ t ∈ usedR y, S t = true
theorem depDown_clo {l : List Stmt} (R : Rgt l) (k0 : Nat) : ∀ (m : Nat) (S : ByteArray → Bool), m ≤ k0 → Clo l k0 m S → Clo l k0 0 (depDown l m S) ∧ ∀ t, S t = true → depDown l m S t = true
  | 0, S, _, h => ⟨h, fun _ ht => ht⟩
  | m + 1, S, hm, h => by
    rw [depDown]
    cases hx : l[m]? with
    | none =>
      dsimp only
      refine depDown_clo R k0 m S (by omega) ⟨h.low, fun j y hj hy ha hk t ht => ?_⟩
      by_cases hjm : j = m
      · subst hjm; rw [hx] at hy; cases hy
      · exact h.clo j y (by omega) hy ha hk t ht
    | some s =>
      dsimp only
      have hus := used_same (R.err s (List.mem_of_getElem? hx))
      by_cases ha : s.names.any S = true
      · rw [if_pos ha, hus]
        have hq : Clo l k0 m (fun t => hasName (usedR s) t || S t) := by
          refine ⟨fun t ht => ?_, fun j y hj hy hay hk t ht => ?_⟩
          · rcases Bool.or_eq_true _ _ ▸ ht with ht | ht
            · obtain ⟨j, y, h1, h2, h3⟩ := R.used m s hx t (hasName_iff.1 ht)
              exact ⟨j, y, by omega, h2, h3⟩
            · exact h.low t ht
          · by_cases hjm : j = m
            · subst hjm
              rw [hx] at hy
              injection hy with hy
              subst hy
              rw [hasName_iff.2 ht, Bool.true_or]
            · obtain ⟨u, hu, hSu⟩ := any_iff.1 hay
              rcases Bool.or_eq_true _ _ ▸ hSu with hSu | hSu
              · obtain ⟨i, z, h1, h2, h3⟩ := R.used m s hx u (hasName_iff.1 hSu)
                exact absurd h3 (R.uniq j i y z u hy h2 (by omega) hu)
              · have := h.clo j y (by omega) hy (any_iff.2 ⟨u, hu, hSu⟩) hk t ht
                simp [this]
        obtain ⟨h1, h2⟩ := depDown_clo R k0 m (fun t => hasName (usedR s) t || S t) (by omega) hq
        exact ⟨h1, fun t ht => h2 t (by simp [ht])⟩
      · rw [if_neg ha]
        refine depDown_clo R k0 m S (by omega) ⟨h.low, fun j y hj hy hay hk t ht => ?_⟩
        by_cases hjm : j = m
        · subst hjm
          rw [hx] at hy
          injection hy with hy
          subst hy
          exact absurd hay ha
        · exact h.clo j y (by omega) hy hay hk t ht
theorem depDown_iff {l : List Stmt} (R : Rgt l) {n : ByteArray} {k0 : Nat} {x0 : Stmt} (hx : l[k0]? = some x0) (hn : n ∈ x0.names) (t : ByteArray) : depDown l k0 (hasName (usedS x0)) t = true ↔ Leads l n t := by
  have hus := used_same (R.err x0 (List.mem_of_getElem? hx))
  have hd := direct_of R hx hn
  rw [hus]
  constructor
  · exact depDown_leads R n k0 _ (fun u hu => .base (by rw [hd]; exact hasName_iff.1 hu)) t
  · obtain ⟨h1, h2⟩ := depDown_clo R k0 k0 (hasName (usedR x0)) (Nat.le_refl _) ⟨fun u hu => R.used k0 x0 hx u (hasName_iff.1 hu), fun j y hj _ _ hk => absurd hk (by omega)⟩
    intro hr
    induction hr with
    | base hx => rw [hd] at hx; exact h2 _ (hasName_iff.2 hx)
    | step _ hx ih =>
      obtain ⟨j, y, hj, hy, hny⟩ := h1.low _ ih
      rw [direct_of R hy hny] at hx
      exact h1.clo j y (Nat.zero_le _) hy (any_iff.2 ⟨_, hny, ih⟩) hj _ hx
theorem uses_same {l : List Stmt} (h : ∀ x ∈ l, x.err = 0) (n : ByteArray) : ∀ (r : List Stmt) (i : Nat), (∀ x ∈ r, x ∈ l) → usesL usedS n i r = usesL usedR n i r
  | [], _, _ => rfl
  | s :: r, i, hr => by
    rw [usesL, usesL, used_same (h s (hr s (List.mem_cons_self ..))), uses_same h n r (i + 1) fun x hx => hr x (List.mem_cons_of_mem _ hx)]
theorem uses_none {g : Stmt → List ByteArray} {n : ByteArray} : ∀ {r : List Stmt} {i : Nat}, (usesL g n i r).length = 0 ↔ ∀ s ∈ r, hasName (g s) n = false
  | [], _ => by simp [usesL]
  | s :: r, i => by
    have ih := uses_none (g := g) (n := n) (r := r) (i := i + 1)
    rw [usesL]
    by_cases hs : hasName (g s) n = true
    · rw [if_pos hs]
      simp [hs]
    · rw [if_neg hs, ih]
      simp [hs]
theorem unused_same {l : List Stmt} (h : rightP l = true) : unusedS l = unusedR l := by
  unfold unusedS unusedR
  rw [rightP_names h]
  refine List.filter_congr fun n hn => ?_
  have he := (rgt_of h).err
  rw [Bool.eq_iff_iff]
  unfold leftS
  rw [hasName_iff.2 hn, Bool.true_and, List.all_eq_true, decide_eq_true_eq, uses_none]
  constructor
  · intro hh s hs
    have := hh s hs
    rw [used_same (he s hs)] at this
    simpa using this
  · intro hh s hs
    rw [used_same (he s hs), hh s hs]
    rfl
theorem all_names {l : List Stmt} : namesOf (takesR 0) l = namesOf (fun _ => true) l := by
  induction l with
  | nil => rfl
  | cons x l ih => unfold namesOf; rw [ih]; simp [takesR]
end Go.Proofs.Ytmlldjcbijoheaa
