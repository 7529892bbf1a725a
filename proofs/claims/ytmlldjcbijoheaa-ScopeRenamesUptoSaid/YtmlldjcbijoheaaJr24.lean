/- Walk: scope.Rename. -/
import Derived.Test.YtmlldjcbijoheaaJr22
import Derived.Test.YtmlldjcbijoheaaJr20
import Derived.Test.YtmlldjcbijoheaaJr23
import Derived.Deep.CutRange

/- Walk: scope.Rename. -/
namespace Go.Proofs.Ytmlldjcbijoheaa
open Go.RowKit

theorem ren_set {l : List ByteArray} {o : ByteArray → ByteArray} {j : Nat} {n : ByteArray} (h : l[j]? = some n) : ((l.take j).map o ++ l.drop j).set j (o n) = (l.take (j + 1)).map o ++ l.drop (j + 1) := by
  have hj := lt_of_get h
  have hl : ((l.take j).map o).length = j := by simp; omega
  rw [List.set_append_right _ _ (by omega), hl, Nat.sub_self, List.drop_eq_getElem_cons hj, List.set_cons_zero, take_more h, List.map_append]
  simp
theorem ren_at {l : List ByteArray} {o : ByteArray → ByteArray} {j : Nat} {n : ByteArray} (h : l[j]? = some n) : ((l.take j).map o ++ l.drop j)[j]? = some n := by
  have hj := lt_of_get h
  have hl : ((l.take j).map o).length = j := by simp; omega
  rw [List.getElem?_append_right (by omega), hl, Nat.sub_self, List.getElem?_drop]
  simpa using h
theorem ren_same {l : List ByteArray} {o : ByteArray → ByteArray} {j : Nat} {n : ByteArray} (h : l[j]? = some n) (ho : o n = n) : (l.take j).map o ++ l.drop j = (l.take (j + 1)).map o ++ l.drop (j + 1) := by
  have hj := lt_of_get h
  have e : l[j] = n := by rw [List.getElem?_eq_getElem hj] at h; exact Option.some.inj h
  rw [take_more h, List.map_append, List.drop_eq_getElem_cons hj, e]
  simp [ho]


set_option maxRecDepth 100000 in
set_option maxHeartbeats 8000000 in
theorem renameS_any (d : Nat) (l : List Stmt) (f t : ByteArray) (la : Option Addr) (lc : Nat) (w : World) (h : StmtsR d w la lc l) (hl : l.length ≤ 40) (hsm : ∀ x ∈ l, x.expr.count ≤ 300 ∧ x.names.length ≤ 40) (hfs : f.size ≤ maxLen) (hts : t.size ≤ maxLen) (E : Int) (hE : renErr (namesOf (takesS 0) l) f t = E) :
    Calls Try.prog 33 #[progVal l.length la lc, .string f, .string t] w (RetProg d w w (if E = 0 then l.map (·.renamedS f t) else []) E) := by
  have hnl := namesOf_length (g := takesS 0) fun x hx => (hsm x hx).2
  have CD := fun W (hW : Below w.heap.size w W) => definedS_any d l 0 la lc W (h.ext (Ext.below hW)) (by omega)
  have CN := fun W => isName_any t W (by unfold maxLen at hts; omega)
  revert CD hE
  generalize namesOf (takesS 0) l = L
  intro hE CD
  have HL := Lib.hid h
  have HSM := Lib.hid hsm
  have HFS := Lib.hid hfs
  have HTS := Lib.hid hts
  have hll := h.len
  unfold progVal at CD ⊢
  replace CD := Lib.hid CD
  replace CN := Lib.hid CN
  clear h hsm hnl hfs hts
  have hz := (Blk.new w 52 #[.slice la l.length lc]).alloc (.cells #[.slice none 0 0] 52)
  have hr := blk_at1 w (.cells #[.slice la l.length lc] 52) 52 #[.slice none 0 0]
  have hb0 : Below w.heap.size w ((w.alloc (.cells #[.slice la l.length lc] 52)).alloc (.cells #[.slice none 0 0] 52)) := by go_grown
  have hs0 : ((w.alloc (.cells #[.slice la l.length lc] 52)).alloc (.cells #[.slice none 0 0] 52)).heap.size = w.heap.size + 2 := by simp
  go_enter Try.func33, Try.ntmps33
  go_wp2_with fail
  revert hz hr hb0 hs0
  generalize (w.alloc (.cells #[.slice la l.length lc] 52)).alloc (.cells #[.slice none 0 0] 52) = w0
  intro hz hr hb0 hs0
  have hs0' : w.heap.size + 2 ≤ w0.heap.size := by omega
  refine (CD.out _ hb0).mono ?_
  rintro r w1 ⟨aL, cL, rfl, hoL, hb1⟩
  have hw1 := below_then hb0 hb1
  have hz1 := hz.below' hb1
  have hr1 := hr.below' hb1
  have hs1 : w.heap.size + 2 ≤ w1.heap.size := by have := hb1.size; omega
  have HLR := Lib.hid hoL.reads1
  have CH := fun n => containsS_any L n aL cL w1 HLR.out
  replace CH := Lib.hid CH
  have r0 := hr1.cell 0
  have m0 := hr1.frozen 0
  have hrl := hr1.lt
  clear hz hr hb0 hs0 hs0' hoL hb1 CD
  go_wp2_with fail
  refine (CH.out f).mono ?_
  rintro r w2 ⟨rfl, rfl⟩
  by_cases h1 : hasName L f = true
  case neg =>
    have h1b : hasName L f = false := by simpa using h1
    have hE6 : E = 6 := by rw [← hE]; unfold renErr; rw [if_pos h1b]
    subst hE6
    rw [h1b]
    clear h1 hE
    go_wp2_with fail
    refine bodyPost_ret (v := .tuple #[.agg #[.slice none 0 0], .int .i64 6]) (by simp [results, Try.results33, go_sem, r0]) rfl ?_
    exact ⟨none, 0, rfl, hw1.setCell (by simp) _, fun V _ _ => SlR.nil⟩
  rw [h1]
  go_wp2_with fail
  refine (CN.out _).mono ?_
  rintro r w2 ⟨rfl, hb2⟩
  have hw2 := below_then hw1 hb2
  have hz2 := hz1.below' hb2
  have hr2 := hr1.below' hb2
  have hs2 : w.heap.size + 2 ≤ w2.heap.size := by have := hb2.size; omega
  have HLR2 := Lib.hid (HLR.out.ext (Ext.below hb2))
  clear CH r0 m0 hrl
  have r0 := hr2.cell 0
  have m0 := hr2.frozen 0
  have hrl := hr2.lt
  by_cases h2 : isNameB t = true
  case neg =>
    have h2b : isNameB t = false := by simpa using h2
    have hE1 : E = 1 := by rw [← hE]; unfold renErr; rw [if_neg (by rw [h1]; simp), if_pos h2b]
    subst hE1
    rw [h2b]
    clear h1 h2 hE
    go_wp2_with fail
    refine bodyPost_ret (v := .tuple #[.agg #[.slice none 0 0], .int .i64 1]) (by simp [results, Try.results33, go_sem, r0]) rfl ?_
    exact ⟨none, 0, rfl, hw2.setCell (by simp) _, fun V _ _ => SlR.nil⟩
  rw [h2]
  have hE3 : (if t ≠ f ∧ hasName L t = true then (7 : Int) else 0) = E := by rw [← hE]; unfold renErr; rw [h1, h2]; simp
  replace hE3 := Lib.hid hE3
  clear h1 h2 hE hz1 hr1 hb2 hw1 hs1
  go_upto_region 6 with fail
  go_cut [28] from 29 to 36 (fun s28 wc => s28 = .bool (decide (t ≠ f ∧ hasName L t = true)) ∧ w2 = wc)
  case first =>
    by_cases h4 : t = f
    · have h4b : (t.toList != f.toList) = false := by rw [bne, str_beq]; simpa using h4
      have h4c : (t.toList == f.toList) = true := by rw [str_beq]; simpa using h4
      have hd : decide (t ≠ f ∧ hasName L t = true) = false := by simp [h4]
      have HD := Lib.hid hd
      clear h4 hd
      go_wp2
      go_meet
      case rel => exact ⟨by rw [HD.out], rfl⟩
    · have h4b : (t.toList != f.toList) = true := by rw [bne, str_beq]; simpa using h4
      have h4c : (t.toList == f.toList) = false := by rw [str_beq]; simpa using h4
      have hd : decide (t ≠ f ∧ hasName L t = true) = hasName L t := by simp [h4]
      have HD := Lib.hid hd
      clear h4 hd
      go_wp2_with fail
      refine (containsS_any L t aL cL w2 HLR2.out).mono ?_
      rintro r w3 ⟨rfl, rfl⟩
      go_wp2
      go_meet
      case rel => exact ⟨by rw [HD.out], rfl⟩
  case rest =>
    obtain ⟨rfl, hwc⟩ := hcut
    subst hwc
    by_cases h3 : t ≠ f ∧ hasName L t = true
    · rw [decide_eq_true h3]
      have hE7 : E = 7 := by rw [← hE3.out, if_pos h3]
      subst hE7
      clear h3 hE3
      go_wp2_with fail
      refine bodyPost_ret (v := .tuple #[.agg #[.slice none 0 0], .int .i64 7]) (by simp [results, Try.results33, go_sem, r0]) rfl ?_
      exact ⟨none, 0, rfl, hw2.setCell (by simp) _, fun V _ _ => SlR.nil⟩
    · rw [decide_eq_false h3]
      have HE0 : E = 0 := by rw [← hE3.out, if_neg h3]
      clear h3
      have hE0 : E = 0 := HE0
      subst hE0
      clear hE3 HE0
      have hy := Blk.new w2 52 #[.slice none 0 0]
      have hbN : Below w2.heap.size w2 (w2.alloc (.cells #[.slice none 0 0] 52)) := by go_grown
      have hyl : w2.heap.size < (w2.alloc (.cells #[.slice none 0 0] 52)).heap.size := by simp
      have z0 := hz2.cell 0
      have hzl := hz2.lt
      go_wp2
      revert hy hbN hyl
      generalize w2.alloc (.cells #[.slice none 0 0] 52) = wN
      obtain ⟨yb, hyb⟩ : ∃ y, y = w2.heap.size := ⟨_, rfl⟩
      rw [← hyb]
      intro hy hbN hyl
      have hwN := below_then hw2 (hyb ▸ hbN)
      have hzN := hz2.below' (hyb ▸ hbN)
      have hrN := hr2.below' (hyb ▸ hbN)
      have hsyb : w.heap.size + 2 ≤ yb := by omega
      clear hyb hbN hz2 hr2 hw2 hs2 HLR HLR2 r0 m0 hrl z0 hzl CN
      go_loopg [41] l.length (fun n q wr => ∃ (k : Nat) (ls : List SQ) (a1 : Option Addr) (c1 : Nat), k + n = l.length ∧ q = .int .i64 k ∧ Below yb wN wr ∧ Blk wr yb 52 #[.slice a1 ls.length c1] ∧ OwnQ wN.heap.size wr a1 c1 ls ∧ (∀ q ∈ ls, ∀ V, Ext w V → NewBut wN.heap.size a1 wr V → q.R d V) ∧ ls.map SQ.s = (l.take k).map (·.renamedS f t) ∧ ls.length = k)
      case atStart => exact ⟨0, [], none, 0, by omega, rfl, Below.refl _ _, hy, Own.nil, by simp, rfl, rfl⟩
      case round =>
        obtain ⟨k, ls, a1, c1, hkn, rfl, hbr, hyr, ho, hR, hmap, hll2⟩ := hrel
        have hwr := hwN.trans (hbr.mono (by omega))
        have hzr := hzN.below hbr (by omega)
        have hrr := hrN.below hbr (by omega)
        have HKN := Lib.hid hkn
        have HR := Lib.hid hR
        have HMAP := Lib.hid hmap
        have HLL := Lib.hid hll2
        have HO := Lib.hid ho
        have hsr := hbr.size
        clear hkn hR hmap hll2 ho hy
        by_cases hlt : k < l.length
        · obtain ⟨x, hx⟩ := get_of_lt hlt
          obtain ⟨bx, ox, rfl, ⟨sa, sc, na, nc, da, dc, aa, ac⟩, hC, hXR⟩ := HL.out.2.2 k x hx
          obtain ⟨hXk, hXn, hXe, hXp⟩ := hXR
          dsimp only at hXn hXe
          replace hC := hC.ext (Ext.below hwr)
          obtain ⟨c0, c1', c2, c3, c4, c5, c6, c7, c8, c9⟩ := hC
          dsimp only at c1' c5 c6 c7
          obtain ⟨hxc, hxn⟩ := HSM.out x (List.mem_of_getElem? hx)
          have HX := Lib.hid hx
          have HXE := Lib.hid hXe
          have HXI := Lib.hid (And.intro hXk hXp)
          have hxnl := hXn.len
          have CC := fun W (hW : Below wr.heap.size wr W) => cloneS_any x.names sa sc W (hXn.ext (Ext.below (below_then hwr hW))) (by omega)
          replace CC := Lib.hid CC
          have hxz := (Blk.new wr 49 #[.int .i64 x.kind, .slice sa x.names.length sc, .int .i64 x.expr.kind, .string x.expr.name, .bool x.expr.neg, .slice na x.expr.num.length nc, .slice da x.expr.den.length dc, .slice aa x.expr.args.length ac, .int .i64 x.expr.pos, .int .i64 x.pos]).alloc (.cells #[.int .i64 x.kind, .slice sa x.names.length sc, .int .i64 x.expr.kind, .string x.expr.name, .bool x.expr.neg, .slice na x.expr.num.length nc, .slice da x.expr.den.length dc, .slice aa x.expr.args.length ac, .int .i64 x.expr.pos, .int .i64 x.pos] 49)
          have hnz := blk_at1 wr (.cells #[.int .i64 x.kind, .slice sa x.names.length sc, .int .i64 x.expr.kind, .string x.expr.name, .bool x.expr.neg, .slice na x.expr.num.length nc, .slice da x.expr.den.length dc, .slice aa x.expr.args.length ac, .int .i64 x.expr.pos, .int .i64 x.pos] 49) 49 #[.int .i64 x.kind, .slice sa x.names.length sc, .int .i64 x.expr.kind, .string x.expr.name, .bool x.expr.neg, .slice na x.expr.num.length nc, .slice da x.expr.den.length dc, .slice aa x.expr.args.length ac, .int .i64 x.expr.pos, .int .i64 x.pos]
          have hbz : Below wr.heap.size wr ((wr.alloc (.cells #[.int .i64 x.kind, .slice sa x.names.length sc, .int .i64 x.expr.kind, .string x.expr.name, .bool x.expr.neg, .slice na x.expr.num.length nc, .slice da x.expr.den.length dc, .slice aa x.expr.args.length ac, .int .i64 x.expr.pos, .int .i64 x.pos] 49)).alloc (.cells #[.int .i64 x.kind, .slice sa x.names.length sc, .int .i64 x.expr.kind, .string x.expr.name, .bool x.expr.neg, .slice na x.expr.num.length nc, .slice da x.expr.den.length dc, .slice aa x.expr.args.length ac, .int .i64 x.expr.pos, .int .i64 x.pos] 49)) := by go_grown
          have hsz : ((wr.alloc (.cells #[.int .i64 x.kind, .slice sa x.names.length sc, .int .i64 x.expr.kind, .string x.expr.name, .bool x.expr.neg, .slice na x.expr.num.length nc, .slice da x.expr.den.length dc, .slice aa x.expr.args.length ac, .int .i64 x.expr.pos, .int .i64 x.pos] 49)).alloc (.cells #[.int .i64 x.kind, .slice sa x.names.length sc, .int .i64 x.expr.kind, .string x.expr.name, .bool x.expr.neg, .slice na x.expr.num.length nc, .slice da x.expr.den.length dc, .slice aa x.expr.args.length ac, .int .i64 x.expr.pos, .int .i64 x.pos] 49)).heap.size = wr.heap.size + 2 := by simp
          have CX := fun W (hW : Below wr.heap.size wr W) => renamedS_any f t HTS.out d x.expr na nc da dc aa ac w W HXE.out (Ext.below (below_then hwr hW)) (by omega)
          unfold Expr.val at CX
          replace CX := Lib.hid CX
          clear hx hXn hXe hXk hXp
          go_wp2_with fail
          revert hxz hnz hbz hsz
          generalize (wr.alloc (.cells #[.int .i64 x.kind, .slice sa x.names.length sc, .int .i64 x.expr.kind, .string x.expr.name, .bool x.expr.neg, .slice na x.expr.num.length nc, .slice da x.expr.den.length dc, .slice aa x.expr.args.length ac, .int .i64 x.expr.pos, .int .i64 x.pos] 49)).alloc (.cells #[.int .i64 x.kind, .slice sa x.names.length sc, .int .i64 x.expr.kind, .string x.expr.name, .bool x.expr.neg, .slice na x.expr.num.length nc, .slice da x.expr.den.length dc, .slice aa x.expr.args.length ac, .int .i64 x.expr.pos, .int .i64 x.pos] 49) = wz
          intro hxz hnz hbz hsz
          have hszl : wr.heap.size + 1 < wz.heap.size := by omega
          replace hsz := Lib.hid hsz
          refine (CC.out _ hbz).mono ?_
          rintro r w2 ⟨a2, cp2, rfl, ho2, hb2⟩
          have hx2 := hxz.below' hb2
          have hn2 := hnz.below' hb2
          have hbz2 := below_then hbz hb2
          have n1 := hn2.cell 1
          have m1 := hn2.frozen 1
          have hnl2 := hn2.lt
          have hx3 := hx2.far (p := ⟨wr.heap.size + 1, 1, none⟩) (by simp) (.slice a2 x.names.length cp2)
          have hn3 := hn2.set_ 1 (.slice a2 x.names.length cp2)
          have ho3 := ho2.far (p := ⟨wr.heap.size + 1, 1, none⟩) hszl (.slice a2 x.names.length cp2)
          have hb3 := hbz2.setCell (p := ⟨wr.heap.size + 1, 1, none⟩) (Nat.le_succ _) (.slice a2 x.names.length cp2)
          clear c0 c1' c2 c3 c4 c5 c6 c7 c8 c9 hxz hnz hx2 hn2 ho2 hb2 hbz2 CC
          go_wp2
          revert hx3 hn3 ho3 hb3
          generalize w2.setCell ⟨wr.heap.size + 1, 1, none⟩ (.slice a2 x.names.length cp2) = w3
          intro hx3 hn3 ho3 hb3
          simp at hn3
          obtain ⟨wq, rfl⟩ : ∃ q : World, q = wr := ⟨_, rfl⟩
          obtain ⟨gk0, rfl⟩ : ∃ q : Nat, q = gk := ⟨_, rfl⟩
          go_loopg [53] x.names.length (fun n q wr => ∃ (j : Nat) (acc : List ByteArray), j + n = x.names.length ∧ q = .int .i64 j ∧ Below wq.heap.size wq wr ∧ Blk wr wq.heap.size 49 #[.int .i64 x.kind, .slice sa x.names.length sc, .int .i64 x.expr.kind, .string x.expr.name, .bool x.expr.neg, .slice na x.expr.num.length nc, .slice da x.expr.den.length dc, .slice aa x.expr.args.length ac, .int .i64 x.expr.pos, .int .i64 x.pos] ∧ Blk wr (wq.heap.size + 1) 49 #[.int .i64 x.kind, .slice a2 x.names.length cp2, .int .i64 x.expr.kind, .string x.expr.name, .bool x.expr.neg, .slice na x.expr.num.length nc, .slice da x.expr.den.length dc, .slice aa x.expr.args.length ac, .int .i64 x.expr.pos, .int .i64 x.pos] ∧ OwnS wz.heap.size wr a2 cp2 acc ∧ acc = (x.names.take j).map (other · f t) ++ x.names.drop j)
          case atStart => exact ⟨0, x.names, by omega, rfl, hb3, hx3, hn3, ho3, by simp⟩
          case round =>
            obtain ⟨j, acc, hjn, rfl, hbj, hxj, hnj, hoj, hacc⟩ := hrel
            have HJN := Lib.hid hjn
            have HACC := Lib.hid hacc
            have hal : acc.length = x.names.length := by rw [hacc]; simp; omega
            have HAL := Lib.hid hal
            have hnl := hnj.lt
            clear hjn hal n1 m1 hx3 hn3 ho3 hb3
            by_cases hjl : j < x.names.length
            · obtain ⟨nm, hn⟩ := get_of_lt hjl
              have hna : acc[j]? = some nm := by rw [hacc]; exact ren_at hn
              obtain ⟨g, rfl, hgB, hgl, u0⟩ := hoj.at1 hna
              have uf := hoj.frozen j
              have n1 := hnj.cell 1
              have HNM := Lib.hid hn
              have hgne : g ≠ wq.heap.size + 1 := by omega
              have hgne2 : g ≠ wq.heap.size := by omega
              clear hn hna hacc
              by_cases he : nm = f
              · have hb : (nm.toList == f.toList) = true := by rw [str_beq]; simpa using he
                have ho : other nm f t = t := by unfold other; rw [if_pos he]
                have HO2 := Lib.hid ho
                have hbE := hbj.setCell (p := ⟨g, j, none⟩) (show wq.heap.size ≤ g by omega) (.string t)
                have hxE := hxj.far (p := ⟨g, j, none⟩) (fun e => hgne2 e.symm) (.string t)
                have hnE := hnj.far (p := ⟨g, j, none⟩) (fun e => hgne e.symm) (.string t)
                have hoE := hoj.set_ j t
                clear he ho
                go_wp2
                go_roundg (gk - 1)
                case rel => exact ⟨j + 1, acc.set j t, by have := HJN.out; omega, by go_num, hbE, hxE, hnE, by simpa using hoE, by rw [HACC.out, ← ren_set HNM.out, HO2.out]⟩
                case measure => have := HJN.out; omega
              · have hb : (nm.toList == f.toList) = false := by rw [str_beq]; simpa using he
                have ho : other nm f t = nm := by unfold other; rw [if_neg he]
                have HO2 := Lib.hid ho
                clear he ho
                go_wp2
                go_roundg (gk - 1)
                case rel => exact ⟨j + 1, acc, by have := HJN.out; omega, by go_num, hbj, hxj, hnj, hoj, by rw [HACC.out]; exact ren_same HNM.out HO2.out⟩
                case measure => have := HJN.out; omega
            · have hwi := below_then hwr hbj
              have hac2 : acc = x.names.map (other · f t) := by rw [hacc, take_all hjl, List.drop_eq_nil_of_le (by omega)]; simp
              have HAC2 := Lib.hid hac2
              have x0 := hxj.cell 0
              have hxl := hxj.lt
              clear hacc hac2
              go_upto_if 69 with fail
              go_cut [] from 42 to 82 (fun wc => ∃ q : SQ, q.s = x.renamedS f t ∧ Below wq.heap.size wq wc ∧ Blk wc (wq.heap.size + 1) 49 q.cs.toArray ∧ (∀ V, Ext w V → New wq.heap.size wc V → q.R d V))
              case first =>
                by_cases hk : x.kind = 1
                · have hkb : (x.kind != 1) = false := by simpa using hk
                  have HK := Lib.hid hk
                  clear hk
                  go_wp2
                  go_meet
                  case rel =>
                    refine ⟨(SQ.mk ⟨x.kind, acc, x.expr, x.pos⟩ ⟨a2, cp2, na, nc, da, dc, aa, ac⟩), ?_, hbj, ?_, fun V hV hN => ⟨HXI.out.1, hoj.readsV (hN.base (by omega)), HXE.out.ext hV, HXI.out.2⟩⟩
                    · show Stmt.mk x.kind acc x.expr x.pos = _
                      unfold Stmt.renamedS
                      rw [HAC2.out, if_pos HK.out]
                    · have := hnj
                      rw [← HAL.out] at this
                      exact this
                · have hkb : (x.kind != 1) = true := by simpa using hk
                  have HK := Lib.hid hk
                  clear hk
                  have x2 := hxj.cell 2; have x3 := hxj.cell 3; have x4 := hxj.cell 4; have x5 := hxj.cell 5; have x6 := hxj.cell 6; have x7 := hxj.cell 7; have x8 := hxj.cell 8
                  simp only [List.getElem?_toArray, List.getElem?_cons_zero, List.getElem?_cons_succ] at x0 x2 x3 x4 x5 x6 x7 x8
                  go_wp2_with fail
                  refine (CX.out _ hbj).mono ?_
                  rintro r w5 ⟨e1, rfl, hpe, hb5, hpR⟩
                  replace hpe := Lib.hid hpe
                  unfold XP.val Expr.val
                  have hn5 := hnj.below' hb5
                  have hb5q := below_then hbj hb5
                  have n2 := hn5.cell 2; have n3 := hn5.cell 3; have n4 := hn5.cell 4; have n5 := hn5.cell 5; have n6 := hn5.cell 6; have n7 := hn5.cell 7; have n8 := hn5.cell 8
                  have f2 := hn5.frozen 2; have f3 := hn5.frozen 3; have f4 := hn5.frozen 4; have f5 := hn5.frozen 5; have f6 := hn5.frozen 6; have f7 := hn5.frozen 7; have f8 := hn5.frozen 8
                  simp only [List.getElem?_toArray, List.getElem?_cons_zero, List.getElem?_cons_succ] at n2 n3 n4 n5 n6 n7 n8
                  clear x0 x2 x3 x4 x5 x6 x7 x8
                  go_wp2
                  go_meet
                  case rel =>
                    have hs5q := hb5q.size
                    have hs5w := hb5.size
                    have hsp : w5.grownBy (((((((w5.setCell ⟨wq.heap.size + 1, 2, none⟩ (.int .i64 e1.e.kind)).setCell ⟨wq.heap.size + 1, 3, none⟩ (.string e1.e.name)).setCell ⟨wq.heap.size + 1, 4, none⟩ (.bool e1.e.neg)).setCell ⟨wq.heap.size + 1, 5, none⟩ (.slice e1.na e1.e.num.length e1.nc)).setCell ⟨wq.heap.size + 1, 6, none⟩ (.slice e1.da e1.e.den.length e1.dc)).setCell ⟨wq.heap.size + 1, 7, none⟩ (.slice e1.aa e1.e.args.length e1.ac)).setCell ⟨wq.heap.size + 1, 8, none⟩ (.int .i64 e1.e.pos)) (some (wq.heap.size + 1)) := (but_set (but_set (but_set (but_set (but_set (but_set (but_set (but_refl w5 (wq.heap.size + 1)) 2 (.int .i64 e1.e.kind)) 3 (.string e1.e.name)) 4 (.bool e1.e.neg)) 5 (.slice e1.na e1.e.num.length e1.nc)) 6 (.slice e1.da e1.e.den.length e1.dc)) 7 (.slice e1.aa e1.e.args.length e1.ac)) 8 (.int .i64 e1.e.pos))
                    have hbV : Below wq.heap.size wq (((((((w5.setCell ⟨wq.heap.size + 1, 2, none⟩ (.int .i64 e1.e.kind)).setCell ⟨wq.heap.size + 1, 3, none⟩ (.string e1.e.name)).setCell ⟨wq.heap.size + 1, 4, none⟩ (.bool e1.e.neg)).setCell ⟨wq.heap.size + 1, 5, none⟩ (.slice e1.na e1.e.num.length e1.nc)).setCell ⟨wq.heap.size + 1, 6, none⟩ (.slice e1.da e1.e.den.length e1.dc)).setCell ⟨wq.heap.size + 1, 7, none⟩ (.slice e1.aa e1.e.args.length e1.ac)).setCell ⟨wq.heap.size + 1, 8, none⟩ (.int .i64 e1.e.pos)) := below_but hb5q hsp (Nat.le_succ _) (by omega)
                    have hoV : OwnS wz.heap.size (((((((w5.setCell ⟨wq.heap.size + 1, 2, none⟩ (.int .i64 e1.e.kind)).setCell ⟨wq.heap.size + 1, 3, none⟩ (.string e1.e.name)).setCell ⟨wq.heap.size + 1, 4, none⟩ (.bool e1.e.neg)).setCell ⟨wq.heap.size + 1, 5, none⟩ (.slice e1.na e1.e.num.length e1.nc)).setCell ⟨wq.heap.size + 1, 6, none⟩ (.slice e1.da e1.e.den.length e1.dc)).setCell ⟨wq.heap.size + 1, 7, none⟩ (.slice e1.aa e1.e.args.length e1.ac)).setCell ⟨wq.heap.size + 1, 8, none⟩ (.int .i64 e1.e.pos)) a2 cp2 acc := (hoj.below hb5).but hsp hszl
                    refine ⟨(SQ.mk ⟨x.kind, acc, e1.e, x.pos⟩ ⟨a2, cp2, e1.na, e1.nc, e1.da, e1.dc, e1.aa, e1.ac⟩), ?_, hbV, ?_, fun V hV hN => ⟨HXI.out.1, hoV.readsV (hN.base (by omega)), hpR V hV (fun q v hq hc => hN q v (by omega) (hsp.cell hc (fun e => by injection e with e; omega))), HXI.out.2⟩⟩
                    · show Stmt.mk x.kind acc e1.e x.pos = _
                      unfold Stmt.renamedS
                      rw [HAC2.out, if_neg HK.out, hpe.out]
                    · have := (((((((hn5.set_ 2 (.int .i64 e1.e.kind)).set_ 3 (.string e1.e.name)).set_ 4 (.bool e1.e.neg)).set_ 5 (.slice e1.na e1.e.num.length e1.nc)).set_ 6 (.slice e1.da e1.e.den.length e1.dc)).set_ 7 (.slice e1.aa e1.e.args.length e1.ac)).set_ 8 (.int .i64 e1.e.pos))
                      simp only [List.setIfInBounds_toArray, List.set_cons_succ, List.set_cons_zero] at this
                      rw [← HAL.out] at this
                      exact this
              case rest =>
                obtain ⟨⟨⟨xk, xn, xe, xp⟩, ⟨qa, qc, qna, qnc, qda, qdc, qaa, qac⟩⟩, hs, hbV, hbt, hmade⟩ := hcut
                replace hbt : Blk wc (wq.heap.size + 1) 49 #[.int .i64 xk, .slice qa xn.length qc, .int .i64 xe.kind, .string xe.name, .bool xe.neg, .slice qna xe.num.length qnc, .slice qda xe.den.length qdc, .slice qaa xe.args.length qac, .int .i64 xe.pos, .int .i64 xp] := hbt
                have hyi := hyr.below' hbV
                have y0 := hyi.cell 0
                clear x0 hxl hoj hnj hxj hbj hwi
                have HMADE := Lib.hid hmade
                have HS := Lib.hid hs
                have ho5 := (HO.out.below hbV).alloc (.cells #[.int .i64 xk, .slice qa xn.length qc, .int .i64 xe.kind, .string xe.name, .bool xe.neg, .slice qna xe.num.length qnc, .slice qda xe.den.length qdc, .slice qaa xe.args.length qac, .int .i64 xe.pos, .int .i64 xp] 49)
                have HO5 := Lib.hid ho5
                have hy5 := hyi.alloc (.cells #[.int .i64 xk, .slice qa xn.length qc, .int .i64 xe.kind, .string xe.name, .bool xe.neg, .slice qna xe.num.length qnc, .slice qda xe.den.length qdc, .slice qaa xe.args.length qac, .int .i64 xe.pos, .int .i64 xp] 49)
                have HY5 := Lib.hid hy5
                have hb5v := hbV.alloc hbV.size (.cells #[.int .i64 xk, .slice qa xn.length qc, .int .i64 xe.kind, .string xe.name, .bool xe.neg, .slice qna xe.num.length qnc, .slice qda xe.den.length qdc, .slice qaa xe.args.length qac, .int .i64 xe.pos, .int .i64 xp] 49)
                have HB5 := Lib.hid hb5v
                have hcell : ∀ j u, (SQ.mk ⟨xk, xn, xe, xp⟩ ⟨qa, qc, qna, qnc, qda, qdc, qaa, qac⟩).cs[j]? = some u → (wc.alloc (.cells #[.int .i64 xk, .slice qa xn.length qc, .int .i64 xe.kind, .string xe.name, .bool xe.neg, .slice qna xe.num.length qnc, .slice qda xe.den.length qdc, .slice qaa xe.args.length qac, .int .i64 xe.pos, .int .i64 xp] 49)).cell? ⟨wc.heap.size, j, none⟩ = some u := fun j u hu => by
                  have e := (Blk.new wc 49 #[.int .i64 xk, .slice qa xn.length qc, .int .i64 xe.kind, .string xe.name, .bool xe.neg, .slice qna xe.num.length qnc, .slice qda xe.den.length qdc, .slice qaa xe.args.length qac, .int .i64 xe.pos, .int .i64 xp]).cell j
                  simp only [List.getElem?_toArray] at e
                  exact e.trans hu
                have HCELL := Lib.hid hcell
                have hwN2 : wN.heap.size ≤ (wc.alloc (.cells #[.int .i64 xk, .slice qa xn.length qc, .int .i64 xe.kind, .string xe.name, .bool xe.neg, .slice qna xe.num.length qnc, .slice qda xe.den.length qdc, .slice qaa xe.args.length qac, .int .i64 xe.pos, .int .i64 xp] 49)).heap.size := by have := hbV.size; simp; omega
                have b0 := hbt.cell 0; have b1 := hbt.cell 1; have b2 := hbt.cell 2; have b3 := hbt.cell 3; have b4 := hbt.cell 4; have b5 := hbt.cell 5; have b6 := hbt.cell 6; have b7 := hbt.cell 7; have b8 := hbt.cell 8; have b9 := hbt.cell 9
                simp only [List.getElem?_toArray, List.getElem?_cons_zero, List.getElem?_cons_succ] at b0 b1 b2 b3 b4 b5 b6 b7 b8 b9
                clear ho5 hy5 hb5v hcell hs hmade
                go_wp2_with (at_builtin; go_must (refine append_stmt rfl (.tmp 77) (.tmp 79) rfl a1 c1 rfl HO5.out (SQ.mk ⟨xk, xn, xe, xp⟩ ⟨qa, qc, qna, qnc, qda, qdc, qaa, qac⟩) (wc.heap.size) 1 rfl (fun j u hu => HCELL.out j u hu) (ls ++ [(SQ.mk ⟨xk, xn, xe, xp⟩ ⟨qa, qc, qna, qnc, qda, qdc, qaa, qac⟩)]) rfl (by have := HLL.out; simp; omega) hwN2 ?_); intro a4 c4 w4 ho4 hg4 hx4; have hy4 := HY5.out.under HO5.out hyl hg4; have hc4 := hy4.cell 0; have hf4 := hy4.frozen 0)
                have hwE : Below yb wN (w4.setCell ⟨yb, 0, none⟩ (.slice a4 (ls ++ [(SQ.mk ⟨xk, xn, xe, xp⟩ ⟨qa, qc, qna, qnc, qda, qdc, qaa, qac⟩)]).length c4)) := (below_app (hbr.trans (HB5.out.mono (by omega))) HO5.out (Nat.le_of_lt hyl) (by omega) hg4).setCell (Nat.le_refl _) _
                have hs4 := hy4.set_ 0 (.slice a4 (ls ++ [(SQ.mk ⟨xk, xn, xe, xp⟩ ⟨qa, qc, qna, qnc, qda, qdc, qaa, qac⟩)]).length c4)
                have hof := ho4.far (p := ⟨yb, 0, none⟩) hyl (.slice a4 (ls ++ [(SQ.mk ⟨xk, xn, xe, xp⟩ ⟨qa, qc, qna, qnc, qda, qdc, qaa, qac⟩)]).length c4)
                simp only [List.length_append, List.length_cons, List.length_nil, Nat.zero_add] at hwE hs4 hof
                go_roundg (gk0 - 1)
                case rel =>
                  refine ⟨k + 1, ls ++ [(SQ.mk ⟨xk, xn, xe, xp⟩ ⟨qa, qc, qna, qnc, qda, qdc, qaa, qac⟩)], a4, c4, by have := HKN.out; omega, by go_num, hwE, by simpa using hs4, by simpa using hof, ?_, ?_, by have := HLL.out; simp; omega⟩
                  · intro q hq V hV hN
                    replace hN := hN.unset hyl
                    rcases List.mem_append.1 hq with hq | hq
                    · exact HR.out q hq V hV (hN.back HB5.out hg4 hx4)
                    · simp at hq
                      subst hq
                      exact HMADE.out V hV (hN.fresh (B' := wq.heap.size) (by omega) (Below.alloc (Below.refl _ _) (Nat.le_refl _) _) hg4 hx4 (fun g e => (HO.out.lt e).2))
                  · rw [List.map_append, HMAP.out, take_more HX.out, List.map_append]
                    congr 1
                    simp only [List.map_cons, List.map_nil]
                    rw [HS.out]
                case measure => have := HKN.out; omega
        · obtain rfl : k = l.length := by have := HKN.out; omega
          have y0 := hyr.cell 0
          have r0 := hrr.cell 0
          have m0 := hrr.frozen 0
          have hrl := hrr.lt
          go_wp2
          have hrF := hrr.set_ 0 (.slice a1 ls.length c1)
          have hwF : Below w.heap.size w (wr.setCell ⟨w.heap.size + 1, 0, none⟩ (.slice a1 ls.length c1)) := hwr.setCell (by simp) _
          have hoF : OwnQ wN.heap.size (wr.setCell ⟨w.heap.size + 1, 0, none⟩ (.slice a1 ls.length c1)) a1 c1 ls := HO.out.far (p := ⟨w.heap.size + 1, 0, none⟩) (by simp; omega) _
          have hNF : ∀ V, New wN.heap.size (wr.setCell ⟨w.heap.size + 1, 0, none⟩ (.slice a1 ls.length c1)) V → New wN.heap.size wr V := fun V h => h.unset (by simp; omega)
          revert hrF hwF hoF hNF
          generalize wr.setCell ⟨w.heap.size + 1, 0, none⟩ (.slice a1 ls.length c1) = wF
          intro hrF hwF hoF hNF
          have e0 := hrF.cell 0
          simp at e0
          have hmap2 := HMAP.out
          rw [take_all (Nat.lt_irrefl _)] at hmap2
          have hlen2 : (l.map (·.renamedS f t)).length = ls.length := by rw [← hmap2, List.length_map]
          refine bodyPost_ret (v := .tuple #[.agg #[.slice a1 ls.length c1], .int .i64 0]) (by simp [results, Try.results33, go_sem, e0]) rfl ?_
          refine ⟨a1, c1, by rw [hlen2]; rfl, hwF, fun V hV hN => ?_⟩
          rw [← hmap2]
          have hNV := hN.base (B' := wN.heap.size) (by omega)
          exact OwnQ.readsIn hoF hNV (fun q hq => HR.out q hq V hV ((hNF V hNV).but a1))
end Go.Proofs.Ytmlldjcbijoheaa
