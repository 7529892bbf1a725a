/- Walk: R19.Rename. -/
import Derived.Test.YtmlldjcbijoheaaJr19
import Derived.Test.YtmlldjcbijoheaaJr20
import Derived.Deep.CutRange

/- Walk: R19.Rename. -/
namespace Go.Proofs.Ytmlldjcbijoheaa
open Go.RowKit


set_option maxRecDepth 100000 in
set_option maxHeartbeats 8000000 in
theorem renameR_any (d : Nat) (l : List Stmt) (f t : ByteArray) (la : Option Addr) (lc : Nat) (w : World) (h : StmtsR d w la lc l) (hl : l.length ≤ 40) (hsm : ∀ x ∈ l, x.expr.count ≤ 300 ∧ x.names.length ≤ 40) (hfs : f.size ≤ maxLen) (hts : t.size ≤ maxLen) (E : Int) (hE : renErr (namesOf (takesR 0) l) f t = E) :
    Calls Try.prog 34 #[progVal l.length la lc, .string f, .string t] w (RetProg d w w (if E = 0 then l.map (·.renamed f t) else []) E) := by
  have hnl := namesOf_length (g := takesR 0) fun x hx => (hsm x hx).2
  have CD := fun W (hW : Below w.heap.size w W) => definedR_any d l 0 la lc W (h.ext (Ext.below hW)) (by omega)
  have CN := fun W => isName15_any t W (by unfold maxLen at hts; omega)
  revert CD hE
  generalize namesOf (takesR 0) l = L
  intro hE CD
  have HL := Lib.hid h
  have HSM := Lib.hid hsm
  have HFS := Lib.hid hfs
  have HTS := Lib.hid hts
  have hll := h.len
  unfold progVal at CD ⊢
  replace CD := Lib.hid CD
  replace CN := Lib.hid CN
  clear h hsm hnl hfs hts
  have hz := (Blk.new w 52 #[.slice la l.length lc]).alloc (.cells #[.slice none 0 0] 52)
  have hr := blk_at1 w (.cells #[.slice la l.length lc] 52) 52 #[.slice none 0 0]
  have hb0 : Below w.heap.size w ((w.alloc (.cells #[.slice la l.length lc] 52)).alloc (.cells #[.slice none 0 0] 52)) := by go_grown
  have hs0 : ((w.alloc (.cells #[.slice la l.length lc] 52)).alloc (.cells #[.slice none 0 0] 52)).heap.size = w.heap.size + 2 := by simp
  go_enter Try.func34, Try.ntmps34
  go_wp2_with fail
  revert hz hr hb0 hs0
  generalize (w.alloc (.cells #[.slice la l.length lc] 52)).alloc (.cells #[.slice none 0 0] 52) = w0
  intro hz hr hb0 hs0
  have hs0' : w.heap.size + 2 ≤ w0.heap.size := by omega
  refine (CD.out _ hb0).mono ?_
  rintro r w1 ⟨aL, cL, rfl, hoL, hb1⟩
  have hw1 := below_then hb0 hb1
  have hz1 := hz.below' hb1
  have hr1 := hr.below' hb1
  have hs1 : w.heap.size + 2 ≤ w1.heap.size := by have := hb1.size; omega
  have HLR := Lib.hid hoL.reads1
  have CH := fun n => has_any L aL cL n w1 HLR.out
  replace CH := Lib.hid CH
  have r0 := hr1.cell 0
  have m0 := hr1.frozen 0
  have hrl := hr1.lt
  clear hz hr hb0 hs0 hs0' hoL hb1 CD
  go_wp2_with fail
  refine (CH.out f).mono ?_
  rintro r w2 ⟨rfl, rfl⟩
  by_cases h1 : hasName L f = true
  case neg =>
    have h1b : hasName L f = false := by simpa using h1
    have hE6 : E = 6 := by rw [← hE]; unfold renErr; rw [if_pos h1b]
    subst hE6
    rw [h1b]
    clear h1 hE
    go_wp2_with fail
    refine bodyPost_ret (v := .tuple #[.agg #[.slice none 0 0], .int .i64 6]) (by simp [results, Try.results34, go_sem, r0]) rfl ?_
    exact ⟨none, 0, rfl, hw1.setCell (by simp) _, fun V _ _ => SlR.nil⟩
  rw [h1]
  go_wp2_with fail
  refine (CN.out _).mono ?_
  rintro r w2 ⟨rfl, hb2⟩
  have hw2 := below_then hw1 hb2
  have hz2 := hz1.below' hb2
  have hr2 := hr1.below' hb2
  have hs2 : w.heap.size + 2 ≤ w2.heap.size := by have := hb2.size; omega
  have HLR2 := Lib.hid (HLR.out.ext (Ext.below hb2))
  clear CH r0 m0 hrl
  have r0 := hr2.cell 0
  have m0 := hr2.frozen 0
  have hrl := hr2.lt
  by_cases h2 : isNameB t = true
  case neg =>
    have h2b : isNameB t = false := by simpa using h2
    have hE1 : E = 1 := by rw [← hE]; unfold renErr; rw [if_neg (by rw [h1]; simp), if_pos h2b]
    subst hE1
    rw [h2b]
    clear h1 h2 hE
    go_wp2_with fail
    refine bodyPost_ret (v := .tuple #[.agg #[.slice none 0 0], .int .i64 1]) (by simp [results, Try.results34, go_sem, r0]) rfl ?_
    exact ⟨none, 0, rfl, hw2.setCell (by simp) _, fun V _ _ => SlR.nil⟩
  rw [h2]
  have hE3 : (if t ≠ f ∧ hasName L t = true then (7 : Int) else 0) = E := by rw [← hE]; unfold renErr; rw [h1, h2]; simp
  replace hE3 := Lib.hid hE3
  clear h1 h2 hE hz1 hr1 hb2 hw1 hs1
  go_upto_region 6 with fail
  go_cut [33] from 26 to 33 (fun s33 wc => s33 = .bool (decide (t ≠ f ∧ hasName L t = true)) ∧ w2 = wc)
  case first =>
    go_wp2_with fail
    refine (has_any L aL cL t w2 HLR2.out).mono ?_
    rintro r w3 ⟨rfl, rfl⟩
    by_cases h4 : t = f
    · have h4b : (t.toList != f.toList) = false := by rw [bne, str_beq]; simpa using h4
      have h4c : (t.toList == f.toList) = true := by rw [str_beq]; simpa using h4
      have hd : decide (t ≠ f ∧ hasName L t = true) = false := by simp [h4]
      have HD := Lib.hid hd
      clear h4 hd
      go_wp2
      all_goals go_meet
      all_goals exact ⟨by rw [HD.out], rfl⟩
    · have h4b : (t.toList != f.toList) = true := by rw [bne, str_beq]; simpa using h4
      have h4c : (t.toList == f.toList) = false := by rw [str_beq]; simpa using h4
      have hd : decide (t ≠ f ∧ hasName L t = true) = hasName L t := by simp [h4]
      obtain ⟨b, hbn⟩ : ∃ b, hasName L t = b := ⟨_, rfl⟩
      have hd2 : decide (t ≠ f ∧ hasName L t = true) = b := hd.trans hbn
      have HD := Lib.hid hd2
      rw [hbn]
      clear h4 hd hd2 hbn
      cases b
      all_goals
        go_wp2
        go_meet
        case rel => exact ⟨by rw [HD.out], rfl⟩
  case rest =>
    obtain ⟨rfl, hwc⟩ := hcut
    subst hwc
    by_cases h3 : t ≠ f ∧ hasName L t = true
    · rw [decide_eq_true h3]
      have hE7 : E = 7 := by rw [← hE3.out, if_pos h3]
      subst hE7
      clear h3 hE3
      go_wp2_with fail
      refine bodyPost_ret (v := .tuple #[.agg #[.slice none 0 0], .int .i64 7]) (by simp [results, Try.results34, go_sem, r0]) rfl ?_
      exact ⟨none, 0, rfl, hw2.setCell (by simp) _, fun V _ _ => SlR.nil⟩
    · rw [decide_eq_false h3]
      have HE0 : E = 0 := by rw [← hE3.out, if_neg h3]
      clear h3
      have hE0 : E = 0 := HE0
      subst hE0
      clear hE3 HE0
      have hy := Blk.new w2 52 #[.slice none 0 0]
      have hbN : Below w2.heap.size w2 (w2.alloc (.cells #[.slice none 0 0] 52)) := by go_grown
      have hyl : w2.heap.size < (w2.alloc (.cells #[.slice none 0 0] 52)).heap.size := by simp
      have z0 := hz2.cell 0
      have hzl := hz2.lt
      go_wp2
      revert hy hbN hyl
      generalize w2.alloc (.cells #[.slice none 0 0] 52) = wN
      obtain ⟨yb, hyb⟩ : ∃ y, y = w2.heap.size := ⟨_, rfl⟩
      rw [← hyb]
      intro hy hbN hyl
      have hwN := below_then hw2 (hyb ▸ hbN)
      have hzN := hz2.below' (hyb ▸ hbN)
      have hrN := hr2.below' (hyb ▸ hbN)
      have hsyb : w.heap.size + 2 ≤ yb := by omega
      clear hyb hbN hz2 hr2 hw2 hs2 HLR HLR2 r0 m0 hrl z0 hzl CN
      go_loopg [38] l.length (fun n q wr => ∃ (k : Nat) (ls : List SQ) (a1 : Option Addr) (c1 : Nat), k + n = l.length ∧ q = .int .i64 k ∧ Below yb wN wr ∧ Blk wr yb 52 #[.slice a1 ls.length c1] ∧ OwnQ wN.heap.size wr a1 c1 ls ∧ (∀ q ∈ ls, ∀ V, Ext w V → NewBut wN.heap.size a1 wr V → q.R d V) ∧ ls.map SQ.s = (l.take k).map (·.renamed f t) ∧ ls.length = k)
      case atStart => exact ⟨0, [], none, 0, by omega, rfl, Below.refl _ _, hy, Own.nil, by simp, rfl, rfl⟩
      case round =>
        obtain ⟨k, ls, a1, c1, hkn, rfl, hbr, hyr, ho, hR, hmap, hll2⟩ := hrel
        have hwr := hwN.trans (hbr.mono (by omega))
        have hzr := hzN.below hbr (by omega)
        have hrr := hrN.below hbr (by omega)
        have HKN := Lib.hid hkn
        have HR := Lib.hid hR
        have HMAP := Lib.hid hmap
        have HLL := Lib.hid hll2
        have HO := Lib.hid ho
        have hsr := hbr.size
        clear hkn hR hmap hll2 ho hy
        by_cases hlt : k < l.length
        · obtain ⟨x, hx⟩ := get_of_lt hlt
          obtain ⟨bx, ox, rfl, ⟨sa, sc, na, nc, da, dc, aa, ac⟩, hC, hXR⟩ := HL.out.2.2 k x hx
          obtain ⟨hXk, hXn, hXe, hXp⟩ := hXR
          dsimp only at hXn hXe
          replace hC := hC.ext (Ext.below hwr)
          obtain ⟨c0, c1', c2, c3, c4, c5, c6, c7, c8, c9⟩ := hC
          dsimp only at c1' c5 c6 c7
          obtain ⟨hxc, hxn⟩ := HSM.out x (List.mem_of_getElem? hx)
          have HX := Lib.hid hx
          have HXN := Lib.hid hXn
          have HXE := Lib.hid hXe
          have HXI := Lib.hid (And.intro hXk hXp)
          have hxnl := hXn.len
          have hxz := Blk.new wr 49 #[.int .i64 x.kind, .slice sa x.names.length sc, .int .i64 x.expr.kind, .string x.expr.name, .bool x.expr.neg, .slice na x.expr.num.length nc, .slice da x.expr.den.length dc, .slice aa x.expr.args.length ac, .int .i64 x.expr.pos, .int .i64 x.pos]
          have hbz : Below wr.heap.size wr (wr.alloc (.cells #[.int .i64 x.kind, .slice sa x.names.length sc, .int .i64 x.expr.kind, .string x.expr.name, .bool x.expr.neg, .slice na x.expr.num.length nc, .slice da x.expr.den.length dc, .slice aa x.expr.args.length ac, .int .i64 x.expr.pos, .int .i64 x.pos] 49)) := by go_grown
          have hsz : (wr.alloc (.cells #[.int .i64 x.kind, .slice sa x.names.length sc, .int .i64 x.expr.kind, .string x.expr.name, .bool x.expr.neg, .slice na x.expr.num.length nc, .slice da x.expr.den.length dc, .slice aa x.expr.args.length ac, .int .i64 x.expr.pos, .int .i64 x.pos] 49)).heap.size = wr.heap.size + 1 := by simp
          clear hx hXn hXe hXk hXp
          go_wp2_with fail
          revert hxz hbz hsz
          generalize wr.alloc (.cells #[.int .i64 x.kind, .slice sa x.names.length sc, .int .i64 x.expr.kind, .string x.expr.name, .bool x.expr.neg, .slice na x.expr.num.length nc, .slice da x.expr.den.length dc, .slice aa x.expr.args.length ac, .int .i64 x.expr.pos, .int .i64 x.pos] 49) = wz
          intro hxz hbz hsz
          have hsz' : wr.heap.size < wz.heap.size := by omega
          replace hsz := Lib.hid hsz
          have hwz := below_then hwr hbz
          have k0 : ∀ w', Below wz.heap.size wz w' → w'.cell? ⟨wr.heap.size, 0, none⟩ = some (.int .i64 x.kind) := held (hxz.cell 0)
          have k2 : ∀ w', Below wz.heap.size wz w' → w'.cell? ⟨wr.heap.size, 2, none⟩ = some (.int .i64 x.expr.kind) := held (hxz.cell 2)
          have k3 : ∀ w', Below wz.heap.size wz w' → w'.cell? ⟨wr.heap.size, 3, none⟩ = some (.string x.expr.name) := held (hxz.cell 3)
          have k4 : ∀ w', Below wz.heap.size wz w' → w'.cell? ⟨wr.heap.size, 4, none⟩ = some (.bool x.expr.neg) := held (hxz.cell 4)
          have k5 : ∀ w', Below wz.heap.size wz w' → w'.cell? ⟨wr.heap.size, 5, none⟩ = some (.slice na x.expr.num.length nc) := held (hxz.cell 5)
          have k6 : ∀ w', Below wz.heap.size wz w' → w'.cell? ⟨wr.heap.size, 6, none⟩ = some (.slice da x.expr.den.length dc) := held (hxz.cell 6)
          have k7 : ∀ w', Below wz.heap.size wz w' → w'.cell? ⟨wr.heap.size, 7, none⟩ = some (.slice aa x.expr.args.length ac) := held (hxz.cell 7)
          have k8 : ∀ w', Below wz.heap.size wz w' → w'.cell? ⟨wr.heap.size, 8, none⟩ = some (.int .i64 x.expr.pos) := held (hxz.cell 8)
          have k9 : ∀ w', Below wz.heap.size wz w' → w'.cell? ⟨wr.heap.size, 9, none⟩ = some (.int .i64 x.pos) := held (hxz.cell 9)
          have s0 : Below wz.heap.size wz wz.drew := (Below.refl _ _).drew
          have CX := fun W (hW : Below wz.heap.size wz W) => renamedR_any f t HTS.out d x.expr na nc da dc aa ac w W HXE.out (Ext.below (below_then hwz hW)) (by omega)
          unfold Expr.val at CX
          replace CX := Lib.hid CX
          clear c0 c1' c2 c3 c4 c5 c6 c7 c8 c9
          go_cut [12] from 42 to 75 (fun s12 wc => ∃ (bt : Nat) (e1 : XP), s12 = .pointer (some ⟨bt, 0, none⟩) ∧ Hid (e1.e = x.expr.renamed f t) ∧ Below wr.heap.size wr wc ∧ Blk wc bt 49 #[.int .i64 x.kind, .slice none 0 0, .int .i64 e1.e.kind, .string e1.e.name, .bool e1.e.neg, .slice e1.na e1.e.num.length e1.nc, .slice e1.da e1.e.den.length e1.dc, .slice e1.aa e1.e.args.length e1.ac, .int .i64 e1.e.pos, .int .i64 x.pos] ∧ Blk wc wr.heap.size 49 #[.int .i64 x.kind, .slice sa x.names.length sc, .int .i64 x.expr.kind, .string x.expr.name, .bool x.expr.neg, .slice na x.expr.num.length nc, .slice da x.expr.den.length dc, .slice aa x.expr.args.length ac, .int .i64 x.expr.pos, .int .i64 x.pos] ∧ wr.heap.size < bt ∧ (∀ V, Ext w V → NewBut wr.heap.size (some ⟨bt, 0, none⟩) wc V → e1.R d V))
          case first =>
            refine wp_region_tree (S := Below wz.heap.size wz) (.q 0 (.q 1 (.q 2 (.q 3 (.q 4 (.q 5 (.q 7 (.q 8 (.two 6 (.q 9 (.l 10 (.t 11 .nil))) 10 (.l 6 (.q 9 (.t 11 .nil)))))))))))) [11] (by kernel_rfl) (by kernel_rfl) (by kernel_rfl) (fun d _ _ _ _ h => by cases d <;> exact h) s0 ?_
            iterate 8 (refine wpMT_q rfl rfl (fun K hK => ?_); apply Exists.intro; refine ⟨fun w' hw' => ?_, ?_⟩; (focus (go_simp; try rfl)); go_simp; refine hK _ _ ?_; clear hK K)
            refine wpMT_two ?_ ?_
            · skip
              refine wpMT_l rfl rfl (fun K hK => ?_)
              go_simp
              refine (CX.out _ s0).mono ?_
              rintro r w2 ⟨e1, rfl, hpe, hb2, hpR⟩
              dsimp only
              refine hK.out _ _ (below_then s0 hb2) (fun _ => ?_)
              clear hK K
              have s2 := below_then s0 hb2
              replace hpe := Lib.hid hpe
              unfold XP.val Expr.val
              iterate 1 (refine wpMT_q rfl rfl (fun K hK => ?_); apply Exists.intro; refine ⟨fun w' hw' => ?_, ?_⟩; (focus (go_simp; try rfl)); go_simp; refine hK _ _ ?_; clear hK K)
              refine wpMT_l rfl rfl (fun K hK => ?_)
              go_simp
              refine hK.out _ _ (s2.alloc s2.size _) (fun _ => ?_)
              clear hK K
              refine wpMT_t rfl rfl (fun K hK => ?_)
              go_simp
              refine hK.out _ _ ?_
              clear hK K
              refine wpMT_nil ?_
              have hb3 : Below wr.heap.size wr (w2.alloc (.cells #[.int .i64 x.kind, .slice none 0 0, .int .i64 e1.e.kind, .string e1.e.name, .bool e1.e.neg, .slice e1.na e1.e.num.length e1.nc, .slice e1.da e1.e.den.length e1.dc, .slice e1.aa e1.e.args.length e1.ac, .int .i64 e1.e.pos, .int .i64 x.pos] 49)) := (below_then hbz s2).alloc (below_then hbz s2).size _
              have hbt3 : Blk (w2.alloc (.cells #[.int .i64 x.kind, .slice none 0 0, .int .i64 e1.e.kind, .string e1.e.name, .bool e1.e.neg, .slice e1.na e1.e.num.length e1.nc, .slice e1.da e1.e.den.length e1.dc, .slice e1.aa e1.e.args.length e1.ac, .int .i64 e1.e.pos, .int .i64 x.pos] 49)) w2.heap.size 49 #[.int .i64 x.kind, .slice none 0 0, .int .i64 e1.e.kind, .string e1.e.name, .bool e1.e.neg, .slice e1.na e1.e.num.length e1.nc, .slice e1.da e1.e.den.length e1.dc, .slice e1.aa e1.e.args.length e1.ac, .int .i64 e1.e.pos, .int .i64 x.pos] := Blk.new _ _ _
              have hx3 := (hxz.below' s2).alloc (.cells #[.int .i64 x.kind, .slice none 0 0, .int .i64 e1.e.kind, .string e1.e.name, .bool e1.e.neg, .slice e1.na e1.e.num.length e1.nc, .slice e1.da e1.e.den.length e1.dc, .slice e1.aa e1.e.args.length e1.ac, .int .i64 e1.e.pos, .int .i64 x.pos] 49)
              have hbtl : wr.heap.size < w2.heap.size := by have := s2.size; omega
              have hRe : ∀ V, Ext w V → NewBut wr.heap.size (some ⟨w2.heap.size, 0, none⟩) (w2.alloc (.cells #[.int .i64 x.kind, .slice none 0 0, .int .i64 e1.e.kind, .string e1.e.name, .bool e1.e.neg, .slice e1.na e1.e.num.length e1.nc, .slice e1.da e1.e.den.length e1.dc, .slice e1.aa e1.e.args.length e1.ac, .int .i64 e1.e.pos, .int .i64 x.pos] 49)) V → e1.R d V := fun V hV hN => hpR V hV (fun q v hq hc => hN q v (by have := s0.size; omega) (fun g e => by injection e with e; subst e; exact Nat.ne_of_lt (World.block_lt_of_cell? _ _ hc)) ((World.cell?_alloc_lt w2 _ q (World.block_lt_of_cell? _ _ hc)).trans hc))
              go_wp2
              go_meet
              case rel => exact ⟨_, e1, rfl, hpe, hb3, hbt3, hx3, hbtl, hRe⟩
            · skip
              refine wpMT_l rfl rfl (fun K hK => ?_)
              go_simp
              refine hK.out _ _ (s0.alloc s0.size _) (fun _ => ?_)
              clear hK K
              have s1 : Below wz.heap.size wz (wz.alloc (.cells #[.int .i64 0, .slice none 0 0, .int .i64 0, .string ⟨#[]⟩, .bool false, .slice none 0 0, .slice none 0 0, .slice none 0 0, .int .i64 0, .int .i64 0] 49)).drew := ((Below.refl _ _).alloc (Nat.le_refl _) _).drew
              refine wpMT_l rfl rfl (fun K hK => ?_)
              go_simp
              refine (CX.out _ s1).mono ?_
              rintro r w2 ⟨e1, rfl, hpe, hb2, hpR⟩
              dsimp only
              refine hK.out _ _ (below_then s1 hb2) (fun _ => ?_)
              clear hK K
              have s2 := below_then s1 hb2
              have hn := (show Blk (wz.alloc (.cells #[.int .i64 0, .slice none 0 0, .int .i64 0, .string ⟨#[]⟩, .bool false, .slice none 0 0, .slice none 0 0, .slice none 0 0, .int .i64 0, .int .i64 0] 49)).drew wz.heap.size 49 #[.int .i64 0, .slice none 0 0, .int .i64 0, .string ⟨#[]⟩, .bool false, .slice none 0 0, .slice none 0 0, .slice none 0 0, .int .i64 0, .int .i64 0] from Blk.new wz 49 #[.int .i64 0, .slice none 0 0, .int .i64 0, .string ⟨#[]⟩, .bool false, .slice none 0 0, .slice none 0 0, .slice none 0 0, .int .i64 0, .int .i64 0]).below' hb2
              have hx2 := (hxz.below' s2)
              replace hpe := Lib.hid hpe
              unfold XP.val Expr.val
              have n0 := hn.cell 0; have n1 := hn.cell 1; have n2 := hn.cell 2; have n3 := hn.cell 3; have n4 := hn.cell 4; have n5 := hn.cell 5; have n6 := hn.cell 6; have n7 := hn.cell 7; have n8 := hn.cell 8; have n9 := hn.cell 9
              have m0 := hn.frozen 0; have m1 := hn.frozen 1; have m2 := hn.frozen 2; have m3 := hn.frozen 3; have m4 := hn.frozen 4; have m5 := hn.frozen 5; have m6 := hn.frozen 6; have m7 := hn.frozen 7; have m8 := hn.frozen 8; have m9 := hn.frozen 9
              simp only [List.getElem?_toArray, List.getElem?_cons_zero, List.getElem?_cons_succ] at n0 n1 n2 n3 n4 n5 n6 n7 n8 n9
              iterate 1 (refine wpMT_q rfl rfl (fun K hK => ?_); apply Exists.intro; refine ⟨fun w' hw' => ?_, ?_⟩; (focus (go_simp; try rfl)); go_simp; refine hK _ _ ?_; clear hK K)
              refine wpMT_t rfl rfl (fun K hK => ?_)
              go_simp
              refine hK.out _ _ ?_
              clear hK K
              refine wpMT_nil ?_
              have hb3 : Below wr.heap.size wr ((((((((((w2.setCell ⟨wz.heap.size, 0, none⟩ (.int .i64 x.kind)).setCell ⟨wz.heap.size, 1, none⟩ (.slice none 0 0)).setCell ⟨wz.heap.size, 2, none⟩ (.int .i64 e1.e.kind)).setCell ⟨wz.heap.size, 3, none⟩ (.string e1.e.name)).setCell ⟨wz.heap.size, 4, none⟩ (.bool e1.e.neg)).setCell ⟨wz.heap.size, 5, none⟩ (.slice e1.na e1.e.num.length e1.nc)).setCell ⟨wz.heap.size, 6, none⟩ (.slice e1.da e1.e.den.length e1.dc)).setCell ⟨wz.heap.size, 7, none⟩ (.slice e1.aa e1.e.args.length e1.ac)).setCell ⟨wz.heap.size, 8, none⟩ (.int .i64 e1.e.pos)).setCell ⟨wz.heap.size, 9, none⟩ (.int .i64 x.pos)) := below_then hbz (((((((((((below_then s1 hb2).setCell (p := ⟨wz.heap.size, 0, none⟩) (Nat.le_refl _) (.int .i64 x.kind)).setCell (p := ⟨wz.heap.size, 1, none⟩) (Nat.le_refl _) (.slice none 0 0)).setCell (p := ⟨wz.heap.size, 2, none⟩) (Nat.le_refl _) (.int .i64 e1.e.kind)).setCell (p := ⟨wz.heap.size, 3, none⟩) (Nat.le_refl _) (.string e1.e.name)).setCell (p := ⟨wz.heap.size, 4, none⟩) (Nat.le_refl _) (.bool e1.e.neg)).setCell (p := ⟨wz.heap.size, 5, none⟩) (Nat.le_refl _) (.slice e1.na e1.e.num.length e1.nc)).setCell (p := ⟨wz.heap.size, 6, none⟩) (Nat.le_refl _) (.slice e1.da e1.e.den.length e1.dc)).setCell (p := ⟨wz.heap.size, 7, none⟩) (Nat.le_refl _) (.slice e1.aa e1.e.args.length e1.ac)).setCell (p := ⟨wz.heap.size, 8, none⟩) (Nat.le_refl _) (.int .i64 e1.e.pos)).setCell (p := ⟨wz.heap.size, 9, none⟩) (Nat.le_refl _) (.int .i64 x.pos))
              have hbt3 : Blk ((((((((((w2.setCell ⟨wz.heap.size, 0, none⟩ (.int .i64 x.kind)).setCell ⟨wz.heap.size, 1, none⟩ (.slice none 0 0)).setCell ⟨wz.heap.size, 2, none⟩ (.int .i64 e1.e.kind)).setCell ⟨wz.heap.size, 3, none⟩ (.string e1.e.name)).setCell ⟨wz.heap.size, 4, none⟩ (.bool e1.e.neg)).setCell ⟨wz.heap.size, 5, none⟩ (.slice e1.na e1.e.num.length e1.nc)).setCell ⟨wz.heap.size, 6, none⟩ (.slice e1.da e1.e.den.length e1.dc)).setCell ⟨wz.heap.size, 7, none⟩ (.slice e1.aa e1.e.args.length e1.ac)).setCell ⟨wz.heap.size, 8, none⟩ (.int .i64 e1.e.pos)).setCell ⟨wz.heap.size, 9, none⟩ (.int .i64 x.pos)) wz.heap.size 49 #[.int .i64 x.kind, .slice none 0 0, .int .i64 e1.e.kind, .string e1.e.name, .bool e1.e.neg, .slice e1.na e1.e.num.length e1.nc, .slice e1.da e1.e.den.length e1.dc, .slice e1.aa e1.e.args.length e1.ac, .int .i64 e1.e.pos, .int .i64 x.pos] := by have := ((((((((((hn.set_ 0 (.int .i64 x.kind)).set_ 1 (.slice none 0 0)).set_ 2 (.int .i64 e1.e.kind)).set_ 3 (.string e1.e.name)).set_ 4 (.bool e1.e.neg)).set_ 5 (.slice e1.na e1.e.num.length e1.nc)).set_ 6 (.slice e1.da e1.e.den.length e1.dc)).set_ 7 (.slice e1.aa e1.e.args.length e1.ac)).set_ 8 (.int .i64 e1.e.pos)).set_ 9 (.int .i64 x.pos)); simpa using this
              have hx3 : Blk ((((((((((w2.setCell ⟨wz.heap.size, 0, none⟩ (.int .i64 x.kind)).setCell ⟨wz.heap.size, 1, none⟩ (.slice none 0 0)).setCell ⟨wz.heap.size, 2, none⟩ (.int .i64 e1.e.kind)).setCell ⟨wz.heap.size, 3, none⟩ (.string e1.e.name)).setCell ⟨wz.heap.size, 4, none⟩ (.bool e1.e.neg)).setCell ⟨wz.heap.size, 5, none⟩ (.slice e1.na e1.e.num.length e1.nc)).setCell ⟨wz.heap.size, 6, none⟩ (.slice e1.da e1.e.den.length e1.dc)).setCell ⟨wz.heap.size, 7, none⟩ (.slice e1.aa e1.e.args.length e1.ac)).setCell ⟨wz.heap.size, 8, none⟩ (.int .i64 e1.e.pos)).setCell ⟨wz.heap.size, 9, none⟩ (.int .i64 x.pos)) wr.heap.size 49 #[.int .i64 x.kind, .slice sa x.names.length sc, .int .i64 x.expr.kind, .string x.expr.name, .bool x.expr.neg, .slice na x.expr.num.length nc, .slice da x.expr.den.length dc, .slice aa x.expr.args.length ac, .int .i64 x.expr.pos, .int .i64 x.pos] := (((((((((((hx2).far (p := ⟨wz.heap.size, 0, none⟩) (by simp; omega) (.int .i64 x.kind)).far (p := ⟨wz.heap.size, 1, none⟩) (by simp; omega) (.slice none 0 0)).far (p := ⟨wz.heap.size, 2, none⟩) (by simp; omega) (.int .i64 e1.e.kind)).far (p := ⟨wz.heap.size, 3, none⟩) (by simp; omega) (.string e1.e.name)).far (p := ⟨wz.heap.size, 4, none⟩) (by simp; omega) (.bool e1.e.neg)).far (p := ⟨wz.heap.size, 5, none⟩) (by simp; omega) (.slice e1.na e1.e.num.length e1.nc)).far (p := ⟨wz.heap.size, 6, none⟩) (by simp; omega) (.slice e1.da e1.e.den.length e1.dc)).far (p := ⟨wz.heap.size, 7, none⟩) (by simp; omega) (.slice e1.aa e1.e.args.length e1.ac)).far (p := ⟨wz.heap.size, 8, none⟩) (by simp; omega) (.int .i64 e1.e.pos)).far (p := ⟨wz.heap.size, 9, none⟩) (by simp; omega) (.int .i64 x.pos))
              have hbtl : wr.heap.size < wz.heap.size := by omega
              have hsp : w2.grownBy ((((((((((w2.setCell ⟨wz.heap.size, 0, none⟩ (.int .i64 x.kind)).setCell ⟨wz.heap.size, 1, none⟩ (.slice none 0 0)).setCell ⟨wz.heap.size, 2, none⟩ (.int .i64 e1.e.kind)).setCell ⟨wz.heap.size, 3, none⟩ (.string e1.e.name)).setCell ⟨wz.heap.size, 4, none⟩ (.bool e1.e.neg)).setCell ⟨wz.heap.size, 5, none⟩ (.slice e1.na e1.e.num.length e1.nc)).setCell ⟨wz.heap.size, 6, none⟩ (.slice e1.da e1.e.den.length e1.dc)).setCell ⟨wz.heap.size, 7, none⟩ (.slice e1.aa e1.e.args.length e1.ac)).setCell ⟨wz.heap.size, 8, none⟩ (.int .i64 e1.e.pos)).setCell ⟨wz.heap.size, 9, none⟩ (.int .i64 x.pos)) (some wz.heap.size) := (but_set (but_set (but_set (but_set (but_set (but_set (but_set (but_set (but_set (but_set (but_refl w2 wz.heap.size) 0 (.int .i64 x.kind)) 1 (.slice none 0 0)) 2 (.int .i64 e1.e.kind)) 3 (.string e1.e.name)) 4 (.bool e1.e.neg)) 5 (.slice e1.na e1.e.num.length e1.nc)) 6 (.slice e1.da e1.e.den.length e1.dc)) 7 (.slice e1.aa e1.e.args.length e1.ac)) 8 (.int .i64 e1.e.pos)) 9 (.int .i64 x.pos))
              have hRe : ∀ V, Ext w V → NewBut wr.heap.size (some ⟨wz.heap.size, 0, none⟩) ((((((((((w2.setCell ⟨wz.heap.size, 0, none⟩ (.int .i64 x.kind)).setCell ⟨wz.heap.size, 1, none⟩ (.slice none 0 0)).setCell ⟨wz.heap.size, 2, none⟩ (.int .i64 e1.e.kind)).setCell ⟨wz.heap.size, 3, none⟩ (.string e1.e.name)).setCell ⟨wz.heap.size, 4, none⟩ (.bool e1.e.neg)).setCell ⟨wz.heap.size, 5, none⟩ (.slice e1.na e1.e.num.length e1.nc)).setCell ⟨wz.heap.size, 6, none⟩ (.slice e1.da e1.e.den.length e1.dc)).setCell ⟨wz.heap.size, 7, none⟩ (.slice e1.aa e1.e.args.length e1.ac)).setCell ⟨wz.heap.size, 8, none⟩ (.int .i64 e1.e.pos)).setCell ⟨wz.heap.size, 9, none⟩ (.int .i64 x.pos)) V → e1.R d V := fun V hV hN => hpR V hV (fun q v hq hc => NewBut.but_back hN hsp q v (by have := s1.size; omega) (fun g e => by injection e with e; subst e; simp at hq ⊢; omega) hc)
              clear hb2 hpR s2 n0 n1 n2 n3 n4 n5 n6 n7 n8 n9 m0 m1 m2 m3 m4 m5 m6 m7 m8 m9 hn hx2 hsp s1
              go_wp2
              go_meet
              case rel => exact ⟨_, e1, rfl, hpe, hb3, hbt3, hx3, hbtl, hRe⟩
          case rest =>
            obtain ⟨bt, e1, rfl, hpe, hb3, hbt3, hx3, hbtl, hRe⟩ := hcut
            obtain ⟨w3, rfl⟩ : ∃ q : World, q = wc := ⟨_, rfl⟩
            clear k0 k2 k3 k4 k5 k6 k7 k8 k9 s0 CX
            have HRE := Lib.hid hRe
            have n1 := hx3.cell 1
            have hxl := hx3.lt
            have hbl := hbt3.lt
            clear hRe
            go_wp2
            obtain ⟨wq, rfl⟩ : ∃ q : World, q = wr := ⟨_, rfl⟩
            obtain ⟨gk0, rfl⟩ : ∃ q : Nat, q = gk := ⟨_, rfl⟩
            go_loopg [55] x.names.length (fun n q wr => ∃ (j : Nat) (acc : List ByteArray) (a2 : Option Addr) (c2 : Nat), j + n = x.names.length ∧ q = .int .i64 j ∧ Below wq.heap.size wq wr ∧ w3.grownBy wr (some bt) ∧ Blk wr bt 49 #[.int .i64 x.kind, .slice a2 acc.length c2, .int .i64 e1.e.kind, .string e1.e.name, .bool e1.e.neg, .slice e1.na e1.e.num.length e1.nc, .slice e1.da e1.e.den.length e1.dc, .slice e1.aa e1.e.args.length e1.ac, .int .i64 e1.e.pos, .int .i64 x.pos] ∧ OwnS w3.heap.size wr a2 c2 acc ∧ acc = (x.names.take j).map (other · f t))
            case atStart => exact ⟨0, [], none, 0, by omega, rfl, hb3, but_refl _ _, hbt3, Own.nil, rfl⟩
            case round =>
              obtain ⟨j, acc, a2, c2, hjn, rfl, hbj, hgb, hbt, hoj, hacc⟩ := hrel
              have HJN := Lib.hid hjn
              have HACC := Lib.hid hacc
              have hal : acc.length = j := by rw [hacc]; simp; omega
              have HAL := Lib.hid hal
              have hbjs := hgb.size
              clear hjn hacc hal n1 hbt3
              by_cases hjl : j < x.names.length
              · obtain ⟨nm, hn⟩ := get_of_lt hjl
                have hwi := below_then hwr hbj
                obtain ⟨ba, oa, rfl, hca⟩ := (HXN.out.ext (Ext.below hwi)).2.2 j nm hn
                have u0 : wr.cell? ⟨ba, oa + j, none⟩ = some (.string nm) := by simpa [StrE] using hca
                have y1 : ∀ w', Below wr.heap.size wr w' → w'.cell? ⟨bt, 1, none⟩ = some (.slice a2 acc.length c2) := held (hbt.cell 1)
                have HNM := Lib.hid hn
                have s0 : Below wr.heap.size wr wr.drew := (Below.refl _ _).drew
                clear hn hca
                go_wp2_with fail
                clear u0
                refine wp_region_mix (S := Below wr.heap.size wr) [(0, .q), (1, .q), (2, .q), (3, .q), (4, .q), (5, .l), (6, .l), (7, .t), (8, .p), (9, .t)] (by kernel_rfl) (by kernel_rfl) (by kernel_rfl) (fun d _ _ _ _ h => by cases d <;> exact h) (s0) ?_
                iterate 5 (refine wpMix_q rfl rfl (fun K hK => ?_); apply Exists.intro; refine ⟨fun w' hw' => ?_, ?_⟩; (focus (go_simp; try rfl)); go_simp; refine hK _ _ ?_; clear hK K)
                refine wpMix_l rfl rfl (fun K hK => ?_)
                go_simp
                refine (other19_any nm f t _).mono ?_
                rintro r w4 ⟨rfl, rfl⟩
                dsimp only
                refine hK.out _ _ s0 (fun _ => ?_)
                clear hK K
                generalize hnn : other nm f t = nn
                replace hnn := Lib.hid hnn
                refine wpMix_l rfl rfl (fun K hK => ?_)
                go_simp
                refine hK.out _ _ (s0.alloc s0.size _) (fun _ => ?_)
                clear hK K
                refine wpMix_t rfl rfl (fun K hK => ?_)
                refine wp_append_1 (.tmp 60) (.tmp 65) 43 rfl Try.underlying43 infoS rfl (by omega) (by omega) strC_len a2 c2 rfl ((hoj.alloc (.cells #[.string nn] 9)).drew) nn (strC_one _) wr.heap.size 1 rfl (strC_cell (by simp)) (acc ++ [nn]) rfl (by have := HAL.out; simp; omega) (by simp; omega) ?_
                intro a4 c4 w4 ho4 hg4 hx4
                go_simp
                refine hK.out _ _ ?_
                clear hK K
                have hbt4 := (Blk.drew (hbt.alloc (.cells #[.string nn] 9))).under hoj hbl hg4
                have hc4 := hbt4.cell 1
                have hf4 := hbt4.frozen 1
                have hgb4 := but_append (but_drew (but_alloc hgb (.cells #[.string nn] 9))) hoj (Nat.le_refl _) hg4
                iterate 1 (refine wpMix_p rfl rfl (fun K hK => ?_); apply Exists.intro; refine ⟨fun w' => ?_, ?_⟩; (focus (go_simp; try rfl)); go_simp; refine hK _ _ ?_; clear hK K)
                refine wpMix_t rfl rfl (fun K hK => ?_)
                go_simp
                refine hK.out _ _ ?_
                clear hK K
                refine wpMix_nil ?_
                have hbE : Below wq.heap.size wq (w4.setCell ⟨bt, 1, none⟩ (.slice a4 (acc ++ [nn]).length c4)) := (below_append' (hbj.alloc hbj.size (.cells #[.string nn] 9)).drew ((Own.base hoj hb3.size).alloc _).drew hg4).setCell (Nat.le_of_lt hbtl) _
                have hgE := but_set hgb4 1 (.slice a4 (acc ++ [nn]).length c4)
                have hbtE := hbt4.set_ 1 (.slice a4 (acc ++ [nn]).length c4)
                have hoE := ho4.far (p := ⟨bt, 1, none⟩) hbl (.slice a4 (acc ++ [nn]).length c4)
                go_wp2
                simp only [List.length_append, List.length_cons, List.length_nil, Nat.zero_add] at hbE hgE hbtE hoE
                go_roundg (gk - 1)
                case rel => exact ⟨j + 1, acc ++ [nn], a4, c4, by have := HJN.out; omega, by go_num, hbE, hgE, by simpa using hbtE, hoE, by rw [take_more HNM.out, List.map_append, ← HACC.out, ← hnn.out]; rfl⟩
                case measure => have := HJN.out; omega
              · have hwi := below_then hwr hbj
                have hyi := hyr.below' hbj
                have y0 := hyi.cell 0
                have b0 := hbt.cell 0; have b1 := hbt.cell 1; have b2 := hbt.cell 2; have b3 := hbt.cell 3; have b4 := hbt.cell 4; have b5 := hbt.cell 5; have b6 := hbt.cell 6; have b7 := hbt.cell 7; have b8 := hbt.cell 8; have b9 := hbt.cell 9
                simp only [List.getElem?_toArray, List.getElem?_cons_zero, List.getElem?_cons_succ] at b0 b1 b2 b3 b4 b5 b6 b7 b8 b9
                have hmade : ∀ V, Ext w V → New wq.heap.size wr V → (SQ.mk ⟨x.kind, acc, e1.e, x.pos⟩ ⟨a2, c2, e1.na, e1.nc, e1.da, e1.dc, e1.aa, e1.ac⟩).R d V := fun V hV hN =>
                  ⟨HXI.out.1, hoj.readsV (hN.base hb3.size), HRE.out V hV (hN.but_back hgb), HXI.out.2⟩
                have HMADE := Lib.hid hmade
                have hs : (Stmt.mk x.kind acc e1.e x.pos) = x.renamed f t := by
                  unfold Stmt.renamed
                  rw [← hpe.out, HACC.out, take_all hjl]
                have HS := Lib.hid hs
                have ho5 := (HO.out.below hbj).alloc (.cells #[.int .i64 x.kind, .slice a2 acc.length c2, .int .i64 e1.e.kind, .string e1.e.name, .bool e1.e.neg, .slice e1.na e1.e.num.length e1.nc, .slice e1.da e1.e.den.length e1.dc, .slice e1.aa e1.e.args.length e1.ac, .int .i64 e1.e.pos, .int .i64 x.pos] 49)
                have HO5 := Lib.hid ho5
                have hy5 := hyi.alloc (.cells #[.int .i64 x.kind, .slice a2 acc.length c2, .int .i64 e1.e.kind, .string e1.e.name, .bool e1.e.neg, .slice e1.na e1.e.num.length e1.nc, .slice e1.da e1.e.den.length e1.dc, .slice e1.aa e1.e.args.length e1.ac, .int .i64 e1.e.pos, .int .i64 x.pos] 49)
                have HY5 := Lib.hid hy5
                have hb5 := hbj.alloc hbj.size (.cells #[.int .i64 x.kind, .slice a2 acc.length c2, .int .i64 e1.e.kind, .string e1.e.name, .bool e1.e.neg, .slice e1.na e1.e.num.length e1.nc, .slice e1.da e1.e.den.length e1.dc, .slice e1.aa e1.e.args.length e1.ac, .int .i64 e1.e.pos, .int .i64 x.pos] 49)
                have HB5 := Lib.hid hb5
                have hcell : ∀ j u, (SQ.mk ⟨x.kind, acc, e1.e, x.pos⟩ ⟨a2, c2, e1.na, e1.nc, e1.da, e1.dc, e1.aa, e1.ac⟩).cs[j]? = some u → (wr.alloc (.cells #[.int .i64 x.kind, .slice a2 acc.length c2, .int .i64 e1.e.kind, .string e1.e.name, .bool e1.e.neg, .slice e1.na e1.e.num.length e1.nc, .slice e1.da e1.e.den.length e1.dc, .slice e1.aa e1.e.args.length e1.ac, .int .i64 e1.e.pos, .int .i64 x.pos] 49)).cell? ⟨wr.heap.size, j, none⟩ = some u := fun j u hu => by
                  have e := (Blk.new wr 49 #[.int .i64 x.kind, .slice a2 acc.length c2, .int .i64 e1.e.kind, .string e1.e.name, .bool e1.e.neg, .slice e1.na e1.e.num.length e1.nc, .slice e1.da e1.e.den.length e1.dc, .slice e1.aa e1.e.args.length e1.ac, .int .i64 e1.e.pos, .int .i64 x.pos]).cell j
                  simp only [List.getElem?_toArray] at e
                  exact e.trans hu
                have HCELL := Lib.hid hcell
                have hwN2 : wN.heap.size ≤ (wr.alloc (.cells #[.int .i64 x.kind, .slice a2 acc.length c2, .int .i64 e1.e.kind, .string e1.e.name, .bool e1.e.neg, .slice e1.na e1.e.num.length e1.nc, .slice e1.da e1.e.den.length e1.dc, .slice e1.aa e1.e.args.length e1.ac, .int .i64 e1.e.pos, .int .i64 x.pos] 49)).heap.size := by have := hbj.size; simp; omega
                clear ho5 hy5 hb5 hcell hs hmade hbt
                go_wp2_with (at_builtin; go_must (refine append_stmt rfl (.tmp 70) (.tmp 72) rfl a1 c1 rfl HO5.out (SQ.mk ⟨x.kind, acc, e1.e, x.pos⟩ ⟨a2, c2, e1.na, e1.nc, e1.da, e1.dc, e1.aa, e1.ac⟩) wr.heap.size 1 rfl (fun j u hu => HCELL.out j u hu) (ls ++ [(SQ.mk ⟨x.kind, acc, e1.e, x.pos⟩ ⟨a2, c2, e1.na, e1.nc, e1.da, e1.dc, e1.aa, e1.ac⟩)]) rfl (by have := HLL.out; simp; omega) hwN2 ?_); intro a4 c4 w4 ho4 hg4 hx4; have hy4 := HY5.out.under HO5.out hyl hg4; have hc4 := hy4.cell 0; have hf4 := hy4.frozen 0)
                have hwE : Below yb wN (w4.setCell ⟨yb, 0, none⟩ (.slice a4 (ls ++ [(SQ.mk ⟨x.kind, acc, e1.e, x.pos⟩ ⟨a2, c2, e1.na, e1.nc, e1.da, e1.dc, e1.aa, e1.ac⟩)]).length c4)) := (below_app (hbr.trans (HB5.out.mono (by omega))) HO5.out (Nat.le_of_lt hyl) (by omega) hg4).setCell (Nat.le_refl _) _
                have hs4 := hy4.set_ 0 (.slice a4 (ls ++ [(SQ.mk ⟨x.kind, acc, e1.e, x.pos⟩ ⟨a2, c2, e1.na, e1.nc, e1.da, e1.dc, e1.aa, e1.ac⟩)]).length c4)
                have hof := ho4.far (p := ⟨yb, 0, none⟩) hyl (.slice a4 (ls ++ [(SQ.mk ⟨x.kind, acc, e1.e, x.pos⟩ ⟨a2, c2, e1.na, e1.nc, e1.da, e1.dc, e1.aa, e1.ac⟩)]).length c4)
                simp only [List.length_append, List.length_cons, List.length_nil, Nat.zero_add] at hwE hs4 hof
                go_roundg (gk0 - 1)
                case rel =>
                  refine ⟨k + 1, ls ++ [(SQ.mk ⟨x.kind, acc, e1.e, x.pos⟩ ⟨a2, c2, e1.na, e1.nc, e1.da, e1.dc, e1.aa, e1.ac⟩)], a4, c4, by have := HKN.out; omega, by go_num, hwE, by simpa using hs4, by simpa using hof, ?_, ?_, by have := HLL.out; simp; omega⟩
                  · intro q hq V hV hN
                    replace hN := hN.unset hyl
                    rcases List.mem_append.1 hq with hq | hq
                    · exact HR.out q hq V hV (hN.back HB5.out hg4 hx4)
                    · simp at hq
                      subst hq
                      exact HMADE.out V hV (hN.fresh (B' := wq.heap.size) (by omega) (Below.alloc (Below.refl _ _) (Nat.le_refl _) _) hg4 hx4 (fun g e => (HO.out.lt e).2))
                  · rw [List.map_append, HMAP.out, take_more HX.out, List.map_append]
                    congr 1
                    simp only [List.map_cons, List.map_nil]
                    rw [HS.out]
                case measure => have := HKN.out; omega
        · obtain rfl : k = l.length := by have := HKN.out; omega
          have y0 := hyr.cell 0
          have r0 := hrr.cell 0
          have m0 := hrr.frozen 0
          have hrl := hrr.lt
          go_wp2
          have hrF := hrr.set_ 0 (.slice a1 ls.length c1)
          have hwF : Below w.heap.size w (wr.setCell ⟨w.heap.size + 1, 0, none⟩ (.slice a1 ls.length c1)) := hwr.setCell (by simp) _
          have hoF : OwnQ wN.heap.size (wr.setCell ⟨w.heap.size + 1, 0, none⟩ (.slice a1 ls.length c1)) a1 c1 ls := HO.out.far (p := ⟨w.heap.size + 1, 0, none⟩) (by simp; omega) _
          have hNF : ∀ V, New wN.heap.size (wr.setCell ⟨w.heap.size + 1, 0, none⟩ (.slice a1 ls.length c1)) V → New wN.heap.size wr V := fun V h => h.unset (by simp; omega)
          revert hrF hwF hoF hNF
          generalize wr.setCell ⟨w.heap.size + 1, 0, none⟩ (.slice a1 ls.length c1) = wF
          intro hrF hwF hoF hNF
          have e0 := hrF.cell 0
          simp at e0
          have hmap2 := HMAP.out
          rw [take_all (Nat.lt_irrefl _)] at hmap2
          have hlen2 : (l.map (·.renamed f t)).length = ls.length := by rw [← hmap2, List.length_map]
          refine bodyPost_ret (v := .tuple #[.agg #[.slice a1 ls.length c1], .int .i64 0]) (by simp [results, Try.results34, go_sem, e0]) rfl ?_
          refine ⟨a1, c1, by rw [hlen2]; rfl, hwF, fun V hV hN => ?_⟩
          rw [← hmap2]
          have hNV := hN.base (B' := wN.heap.size) (by omega)
          exact OwnQ.readsIn hoF hNV (fun q hq => HR.out q hq V hV ((hNF V hNV).but a1))
end Go.Proofs.Ytmlldjcbijoheaa
