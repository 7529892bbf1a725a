/- Walks: an expression with a name replaced, by the reference and by the program. -/
import Derived.Test.YtmlldjcbijoheaaJr18
import Derived.Test.YtmlldjcbijoheaaJr10

/- Walks: an expression with a name replaced, by the reference and by the program. -/
namespace Go.Proofs.Ytmlldjcbijoheaa
open Go.RowKit

theorem other19_any (n f t : ByteArray) (w : World) : Calls Try.prog 74 #[.string n, .string f, .string t] w fun e w' => e = .returned (.string (other n f t)) ∧ w = w' := by
  by_cases h : n = f
  · have hb : (n.toList == f.toList) = true := by rw [str_beq]; simpa using h
    have hr : other n f t = t := by unfold other; rw [if_pos h]
    rw [hr]
    clear h hr
    go_enter Try.func74, Try.ntmps74
    go_wp2
    go_ret
    exact ⟨rfl, rfl⟩
  · have hb : (n.toList == f.toList) = false := by rw [str_beq]; simpa using h
    have hr : other n f t = n := by unfold other; rw [if_neg h]
    rw [hr]
    clear h hr
    go_enter Try.func74, Try.ntmps74
    go_wp2
    go_ret
    exact ⟨rfl, rfl⟩



set_option maxRecDepth 100000 in
set_option maxHeartbeats 4000000 in
theorem renamedR_any (f t : ByteArray) (htl : t.size ≤ maxLen) (d : Nat) : ∀ (e : Expr) (na : Option Addr) (nc : Nat) (da : Option Addr) (dc : Nat) (aa : Option Addr) (ac : Nat) (W0 w : World),
    ExprR d W0 na nc da dc aa ac e → Ext W0 w → e.count ≤ 1048576 →
    Calls Try.prog 73 #[e.val na nc da dc aa ac, .string f, .string t] w (RetX W0 w d (e.renamed f t)) := by
  induction d with
  | zero => intro e na nc da dc aa ac W0 w h; exact h.elim
  | succ d ih =>
    intro e na nc da dc aa ac W0 w h hext hcount
    obtain ⟨hik, hip, hnm, n1, n2, hx⟩ := h.of_succ
    have IH := Lib.hid ih
    have HX := Lib.hid hx
    have HE := Lib.hid hext
    obtain ⟨nm, hnmd⟩ : ∃ q, (if e.kind = 1 ∧ e.name = f then t else e.name) = q := ⟨_, rfl⟩
    have HNM := Lib.hid hnmd
    have hnmS : nm.size ≤ maxLen := by rw [← hnmd]; split; exact htl; exact hnm
    have HN := Lib.hid (And.intro hik (And.intro hip (And.intro hnmS (And.intro n1 n2))))
    have hl := hx.len
    have hcl : e.args.length ≤ 1048576 := by have := counts_ge_length e.args; have := Expr.count_eq e; omega
    clear ih hx n1 n2 hik hip hnm h hext hnmS
    unfold Expr.val
    by_cases h1 : e.kind = 1
    · have h1b : (e.kind == 1) = true := by simpa using h1
      have hon : other e.name f t = nm := by rw [← hnmd]; unfold other; simp [h1]
      have CO := fun W => other19_any e.name f t W
      rw [hon] at CO
      replace CO := Lib.hid CO
      clear h1 hnmd hon
      go_enter Try.func73, Try.ntmps73
      go_wp2_with fail
      refine (CO.out _).mono ?_
      rintro e1 w1 ⟨rfl, rfl⟩
      go_wp2_with fail
      have hbs : Below w.heap.size w (((w.alloc (.cells #[.int .i64 e.kind, .string (e.name), .bool e.neg, .slice na e.num.length nc, .slice da e.den.length dc, .slice aa e.args.length ac, .int .i64 e.pos] 40)).alloc (.cells #[.int .i64 0, .string ⟨#[]⟩, .bool false, .slice none 0 0, .slice none 0 0, .slice none 0 0, .int .i64 0] 40)).alloc (.cells #[.int .i64 e.kind, .string (nm), .bool e.neg, .slice na e.num.length nc, .slice da e.den.length dc, .slice none 0 0, .int .i64 e.pos] 40)) := by go_grown
      have hzs := (blk_at1 w (.cells #[.int .i64 e.kind, .string (e.name), .bool e.neg, .slice na e.num.length nc, .slice da e.den.length dc, .slice aa e.args.length ac, .int .i64 e.pos] 40) 40 #[.int .i64 0, .string ⟨#[]⟩, .bool false, .slice none 0 0, .slice none 0 0, .slice none 0 0, .int .i64 0]).alloc (.cells #[.int .i64 e.kind, .string (nm), .bool e.neg, .slice na e.num.length nc, .slice da e.den.length dc, .slice none 0 0, .int .i64 e.pos] 40)
      have hts := blk_at2 w (.cells #[.int .i64 e.kind, .string (e.name), .bool e.neg, .slice na e.num.length nc, .slice da e.den.length dc, .slice aa e.args.length ac, .int .i64 e.pos] 40) (.cells #[.int .i64 0, .string ⟨#[]⟩, .bool false, .slice none 0 0, .slice none 0 0, .slice none 0 0, .int .i64 0] 40) 40 #[.int .i64 e.kind, .string (nm), .bool e.neg, .slice na e.num.length nc, .slice da e.den.length dc, .slice none 0 0, .int .i64 e.pos]
      go_loopw [31] (fun i wr => ∃ (k : Nat) (l : List XP) (a1 : Option Addr) (c1 : Nat), k ≤ e.args.length ∧ i = .int .i64 k ∧ Below w.heap.size w wr ∧
        Blk wr (w.heap.size + 1) 40 #[.int .i64 0, .string ⟨#[]⟩, .bool false, .slice none 0 0, .slice none 0 0, .slice none 0 0, .int .i64 0] ∧
        Blk wr (w.heap.size + 1 + 1) 40 #[.int .i64 e.kind, .string (nm), .bool e.neg, .slice na e.num.length nc, .slice da e.den.length dc, .slice a1 l.length c1, .int .i64 e.pos] ∧
        OwnX (w.heap.size + 3) wr a1 c1 l ∧ Hid (∀ p ∈ l, ∀ V, Ext W0 V → NewBut (w.heap.size + 3) a1 wr V → p.R d V) ∧ l.length = k ∧ Hid (l.map XP.e = Expr.renameds f t (e.args.take k))) (fun i _ => e.args.length - (intOf i).toNat)
      case atStart => exact ⟨0, [], none, 0, by omega, rfl, hbs, hzs, hts, Own.nil, by simp [Hid], rfl, by simp [Hid, Expr.renameds]⟩
      case round =>
        clear hbs hzs hts
        obtain ⟨k, l, a1, c1, hk, rfl, hb, hz, ht, ho, hR, hlk, hmap⟩ := hrel
        replace hlk := Lib.hid hlk
        by_cases hlt : k < e.args.length
        · obtain ⟨x, hx⟩ := get_of_lt hlt
          obtain ⟨b, off, rfl, hE⟩ := HX.out.2.2 k x hx
          obtain ⟨ma, mc, ea, ec, ba, bc, hC, hr⟩ := hE
          obtain ⟨q0, q1, q2, q3, q4, q5, q6⟩ := hC.ext (HE.out.trans (Ext.below hb))
          have hcx := count_arg (List.mem_of_getElem? hx)
          have HXX := Lib.hid hx
          have hs0 := hb.size
          clear hx hC
          go_wp2_with fail
          obtain ⟨g2, hg2⟩ : ∃ g, g = w.heap.size + 1 + 1 := ⟨_, rfl⟩
          rw [← hg2] at ht ⊢
          have hg3 : w.heap.size + 1 < g2 ∧ g2 < w.heap.size + 3 := by omega
          replace hg2 := Lib.hid hg2
          have hb0 : Below wr.heap.size wr (wr.alloc (.cells #[.int .i64 x.kind, .string x.name, .bool x.neg, .slice ma x.num.length mc, .slice ea x.den.length ec, .slice ba x.args.length bc, .int .i64 x.pos] 40)) := by go_grown
          have bx : ExprC (wr.alloc (.cells #[.int .i64 x.kind, .string x.name, .bool x.neg, .slice ma x.num.length mc, .slice ea x.den.length ec, .slice ba x.args.length bc, .int .i64 x.pos] 40)) wr.heap.size 0 ma mc ea ec ba bc x := by simp [ExprC]
          clear q0 q1 q2 q3 q4 q5 q6
          have hsz : (wr.alloc (.cells #[.int .i64 x.kind, .string x.name, .bool x.neg, .slice ma x.num.length mc, .slice ea x.den.length ec, .slice ba x.args.length bc, .int .i64 x.pos] 40)).heap.size = wr.heap.size + 1 := by simp
          revert hb0 bx hsz
          generalize (wr.alloc (.cells #[.int .i64 x.kind, .string x.name, .bool x.neg, .slice ma x.num.length mc, .slice ea x.den.length ec, .slice ba x.args.length bc, .int .i64 x.pos] 40)) = w0
          intro hb0 bx hsz
          replace hsz := Lib.hid hsz
          obtain ⟨k0, k1, k2, k3, k4, k5, k6⟩ := ExprC.held bx
          clear bx
          have hb00 := below_then hb hb0
          have ht0 := ht.below' hb0
          have hz0 := hz.below' hb0
          have ho0 := ho.below hb0
          have hc0 : w0.cell? ⟨g2, 5, none⟩ = some (.slice a1 l.length c1) := ht0.cell 5
          have K7 := held hc0
          clear hc0 hb hz ht
          have s0 : Below w0.heap.size w0 w0.drew := (Below.refl _ _).drew
          refine wp_region_mix (S := Below w0.heap.size w0) [(0, .q), (1, .q), (2, .q), (3, .q), (4, .q), (5, .l), (6, .l), (7, .t), (8, .p), (9, .t)] (by kernel_rfl) (by kernel_rfl) (by kernel_rfl) (fun d _ _ _ _ h => by cases d <;> exact h) (s0) ?_
          iterate 5 (refine wpMix_q rfl rfl (fun K hK => ?_); apply Exists.intro; refine ⟨fun w' hw' => ?_, ?_⟩; (focus (go_simp; try rfl)); go_simp; refine hK _ _ ?_; clear hK K)
          have hcx2 : x.count ≤ 1048576 := by omega
          have IHX := IH.out x ma mc ea ec ba bc W0 w0.drew hr (HE.out.trans (Ext.below (below_then hb00 s0))) hcx2
          unfold Expr.val at IHX
          refine wpMix_l rfl rfl (fun K hK => ?_)
          go_simp
          refine (IHX).mono ?_
          rintro r w2 ⟨p, rfl, hpe, hb2, hpR⟩
          dsimp only
          refine hK.out _ _ (below_then s0 hb2) (fun _ => ?_)
          clear hK K
          have s2 := below_then s0 hb2
          have ht2 := ht0.below' s2
          have hz2 := hz0.below' s2
          have ho2 := ho0.below s2
          have hs2 := s2.size
          have hcap := ho.cap
          replace hpe := Lib.hid hpe
          unfold XP.val Expr.val
          refine wpMix_l rfl rfl (fun K hK => ?_)
          go_simp
          refine hK.out _ _ (s2.alloc hs2 _) (fun _ => ?_)
          clear hK K
          refine wpMix_t rfl rfl (fun K hK => ?_)
          refine wp_append_expr (.tmp 36) (.tmp 41) rfl a1 c1 rfl (ho2.alloc _) p w2.heap.size 1 rfl (fun j u hu => ?_) (l ++ [p]) rfl (by simp; have := hlk.out; omega) (by have := ht0.lt; simp; omega) ?_
          · have e1 := (Blk.new w2 40 (exprC p).toArray).cell j
            simp only [List.getElem?_toArray] at e1
            exact e1.trans hu
          intro a4 c4 w4 ho4 hg4 hx4
          go_simp
          refine hK.out _ _ ?_
          clear hK K
          have ht4 := (ht2.alloc (.cells (exprC p).toArray 40)).under ho2 hg3.2 hg4
          have hz4 := (hz2.alloc (.cells (exprC p).toArray 40)).under ho2 (by omega) hg4
          have hc4 := ht4.cell 5
          have hf4 := ht4.frozen 5
          iterate 1 (refine wpMix_p rfl rfl (fun K hK => ?_); apply Exists.intro; refine ⟨fun w' => ?_, ?_⟩; (focus (go_simp; try rfl)); go_simp; refine hK _ _ ?_; clear hK K)
          refine wpMix_t rfl rfl (fun K hK => ?_)
          go_simp
          refine hK.out _ _ ?_
          clear hK K
          refine wpMix_nil ?_
          have hg2e := hg2.out
          subst hg2e
          go_wp2
          have hb4 : Below w.heap.size w (w4.setCell ⟨w.heap.size + 1 + 1, 5, none⟩ (.slice a4 (l ++ [p]).length c4)) := (((below_append' (below_then hb00 (s2.alloc hs2 _)) (Own.base (ho2.alloc _) (by omega)) hg4)).setCell (by simp; omega) _)
          have hs4 := ht4.set_ 5 (.slice a4 (l ++ [p]).length c4)
          have hz5 := hz4.far (p := ⟨w.heap.size + 1 + 1, 5, none⟩) (by simp) (.slice a4 (l ++ [p]).length c4)
          simp only [List.length_append, List.length_cons, List.length_nil, Nat.zero_add] at hb4 hs4 hz5
          refine ⟨⟨k + 1, l ++ [p], a4, c4, by omega, by go_num, hb4, hz5, ?_, ?_, ?_, ?_, ?_⟩, by simp [intOf]; omega⟩
          · simpa using hs4
          · have := ho4.far (p := ⟨w.heap.size + 1 + 1, 5, none⟩) (by simp) (.slice a4 (l.length + 1) c4)
            exact this
          · intro q hq V hV hN
            replace hN := hN.unset (by simp)
            rcases List.mem_append.1 hq with hq | hq
            · exact hR.out q hq V hV (hN.back (below_then hb0 (s2.alloc hs2 _)) hg4 hx4)
            · simp at hq
              subst hq
              refine hpR V hV (hN.fresh (B' := w0.drew.heap.size) (by have := ht0.lt; simp; omega) (Below.alloc (Below.refl _ _) (Nat.le_refl _) _) hg4 hx4 ?_)
              exact fun g e => (ho0.lt e).2
          · simpa using hlk.out
          · have := hmap.out
            simp only [Hid, List.map_append, List.map_cons, List.map_nil, this, hpe.out]
            rw [take_more HXX.out, renameds_eq, renameds_eq]
            simp
        · have e0 := ht.cell 0; have e1 := ht.cell 1; have e2 := ht.cell 2; have e3 := ht.cell 3; have e4 := ht.cell 4; have e5 := ht.cell 5; have e6 := ht.cell 6
          have z0 := hz.cell 0; have z1 := hz.cell 1; have z2 := hz.cell 2; have z3 := hz.cell 3; have z4 := hz.cell 4; have z5 := hz.cell 5; have z6 := hz.cell 6
          have y0 := hz.frozen 0; have y1 := hz.frozen 1; have y2 := hz.frozen 2; have y3 := hz.frozen 3; have y4 := hz.frozen 4; have y5 := hz.frozen 5; have y6 := hz.frozen 6
          simp only [List.getElem?_toArray, List.getElem?_cons_zero, List.getElem?_cons_succ] at e0 e1 e2 e3 e4 e5 e6 z0 z1 z2 z3 z4 z5 z6
          go_wp2_with fail
          have hF := ((((((hz.set_ 0 (Value.int IntKind.i64 e.kind)).set_ 1 (Value.string (nm))).set_ 2 (Value.bool e.neg)).set_ 3 (Value.slice na e.num.length nc)).set_ 4 (Value.slice da e.den.length dc)).set_ 5 (Value.slice a1 l.length c1)).set_ 6 (Value.int IntKind.i64 e.pos)
          have ho5 := ((((((ho.far (p := ⟨w.heap.size + 1, 0, none⟩) (by simp) (Value.int IntKind.i64 e.kind)).far (p := ⟨w.heap.size + 1, 1, none⟩) (by simp) (Value.string (nm))).far (p := ⟨w.heap.size + 1, 2, none⟩) (by simp) (Value.bool e.neg)).far (p := ⟨w.heap.size + 1, 3, none⟩) (by simp) (Value.slice na e.num.length nc)).far (p := ⟨w.heap.size + 1, 4, none⟩) (by simp) (Value.slice da e.den.length dc)).far (p := ⟨w.heap.size + 1, 5, none⟩) (by simp) (Value.slice a1 l.length c1)).far (p := ⟨w.heap.size + 1, 6, none⟩) (by simp) (Value.int IntKind.i64 e.pos)
          have hb5 := ((((((hb.setCell (p := ⟨w.heap.size + 1, 0, none⟩) (by simp) (Value.int IntKind.i64 e.kind)).setCell (p := ⟨w.heap.size + 1, 1, none⟩) (by simp) (Value.string (nm))).setCell (p := ⟨w.heap.size + 1, 2, none⟩) (by simp) (Value.bool e.neg)).setCell (p := ⟨w.heap.size + 1, 3, none⟩) (by simp) (Value.slice na e.num.length nc)).setCell (p := ⟨w.heap.size + 1, 4, none⟩) (by simp) (Value.slice da e.den.length dc)).setCell (p := ⟨w.heap.size + 1, 5, none⟩) (by simp) (Value.slice a1 l.length c1)).setCell (p := ⟨w.heap.size + 1, 6, none⟩) (by simp) (Value.int IntKind.i64 e.pos)
          have hN5 : ∀ V, NewBut (w.heap.size + 3) a1 (((((((wr.setCell ⟨w.heap.size + 1, 0, none⟩ (Value.int IntKind.i64 e.kind)).setCell ⟨w.heap.size + 1, 1, none⟩ (Value.string (nm))).setCell ⟨w.heap.size + 1, 2, none⟩ (Value.bool e.neg)).setCell ⟨w.heap.size + 1, 3, none⟩ (Value.slice na e.num.length nc)).setCell ⟨w.heap.size + 1, 4, none⟩ (Value.slice da e.den.length dc)).setCell ⟨w.heap.size + 1, 5, none⟩ (Value.slice a1 l.length c1)).setCell ⟨w.heap.size + 1, 6, none⟩ (Value.int IntKind.i64 e.pos)) V → NewBut (w.heap.size + 3) a1 wr V := fun V h => ((((((h.unset (by simp)).unset (by simp)).unset (by simp)).unset (by simp)).unset (by simp)).unset (by simp)).unset (by simp)
          revert hF ho5 hb5 hN5
          generalize (((((((wr.setCell ⟨w.heap.size + 1, 0, none⟩ (Value.int IntKind.i64 e.kind)).setCell ⟨w.heap.size + 1, 1, none⟩ (Value.string (nm))).setCell ⟨w.heap.size + 1, 2, none⟩ (Value.bool e.neg)).setCell ⟨w.heap.size + 1, 3, none⟩ (Value.slice na e.num.length nc)).setCell ⟨w.heap.size + 1, 4, none⟩ (Value.slice da e.den.length dc)).setCell ⟨w.heap.size + 1, 5, none⟩ (Value.slice a1 l.length c1)).setCell ⟨w.heap.size + 1, 6, none⟩ (Value.int IntKind.i64 e.pos)) = wf
          intro hF ho5 hb5 hN5
          simp at hF
          have e0 := hF.cell 0; have e1 := hF.cell 1; have e2 := hF.cell 2; have e3 := hF.cell 3; have e4 := hF.cell 4; have e5 := hF.cell 5; have e6 := hF.cell 6
          simp only [List.getElem?_toArray, List.getElem?_cons_zero, List.getElem?_cons_succ] at e0 e1 e2 e3 e4 e5 e6
          have hmap2 := hmap.out
          rw [take_all hlt] at hmap2
          have hlen : (Expr.renameds f t e.args).length = l.length := by rw [← hmap2, List.length_map]
          have hval : (XP.mk (e.renamed f t) na nc da dc a1 c1).val = .agg #[.int .i64 e.kind, .string (nm), .bool e.neg, .slice na e.num.length nc, .slice da e.den.length dc, .slice a1 l.length c1, .int .i64 e.pos] := by
            rw [Expr.renamed_eq, HNM.out]
            show Value.agg #[.int .i64 e.kind, .string (nm), .bool e.neg, .slice na e.num.length nc, .slice da e.den.length dc, .slice a1 (Expr.renameds f t e.args).length c1, .int .i64 e.pos] = _
            rw [hlen]
          refine bodyPost_ret (v := (XP.mk (e.renamed f t) na nc da dc a1 c1).val) (by rw [hval]; simp [results, Try.results73, go_sem, e0, e1, e2, e3, e4, e5, e6]) rfl ?_
          refine ⟨_, rfl, rfl, hb5, fun V hV hN => ?_⟩
          have hNN := HN.out
          show ExprR (d + 1) V na nc da dc a1 c1 (e.renamed f t)
          rw [Expr.renamed_eq, HNM.out]
          refine .mk hNN.1 hNN.2.1 hNN.2.2.1 (hNN.2.2.2.1.ext hV) (hNN.2.2.2.2.ext hV) ?_
          show SlR 7 (ExprE d) V a1 c1 (Expr.renameds f t e.args)
          rw [← hmap2]
          have hN3 : New (w.heap.size + 3) wf V := hN.base (by omega)
          exact OwnX.readsIn ho5 hN3 fun p hp => hR.out p hp V hV (hN5 V (hN3.but a1))
    · have h1b : (e.kind == 1) = false := by simpa using h1
      have hon : e.name = nm := by rw [← hnmd]; simp [h1]
      clear h1 hnmd
      subst hon
      go_enter Try.func73, Try.ntmps73
      go_wp2_with fail
      have hbs : Below w.heap.size w (((w.alloc (.cells #[.int .i64 e.kind, .string (e.name), .bool e.neg, .slice na e.num.length nc, .slice da e.den.length dc, .slice aa e.args.length ac, .int .i64 e.pos] 40)).alloc (.cells #[.int .i64 0, .string ⟨#[]⟩, .bool false, .slice none 0 0, .slice none 0 0, .slice none 0 0, .int .i64 0] 40)).alloc (.cells #[.int .i64 e.kind, .string (e.name), .bool e.neg, .slice na e.num.length nc, .slice da e.den.length dc, .slice none 0 0, .int .i64 e.pos] 40)) := by go_grown
      have hzs := (blk_at1 w (.cells #[.int .i64 e.kind, .string (e.name), .bool e.neg, .slice na e.num.length nc, .slice da e.den.length dc, .slice aa e.args.length ac, .int .i64 e.pos] 40) 40 #[.int .i64 0, .string ⟨#[]⟩, .bool false, .slice none 0 0, .slice none 0 0, .slice none 0 0, .int .i64 0]).alloc (.cells #[.int .i64 e.kind, .string (e.name), .bool e.neg, .slice na e.num.length nc, .slice da e.den.length dc, .slice none 0 0, .int .i64 e.pos] 40)
      have hts := blk_at2 w (.cells #[.int .i64 e.kind, .string (e.name), .bool e.neg, .slice na e.num.length nc, .slice da e.den.length dc, .slice aa e.args.length ac, .int .i64 e.pos] 40) (.cells #[.int .i64 0, .string ⟨#[]⟩, .bool false, .slice none 0 0, .slice none 0 0, .slice none 0 0, .int .i64 0] 40) 40 #[.int .i64 e.kind, .string (e.name), .bool e.neg, .slice na e.num.length nc, .slice da e.den.length dc, .slice none 0 0, .int .i64 e.pos]
      go_loopw [31] (fun i wr => ∃ (k : Nat) (l : List XP) (a1 : Option Addr) (c1 : Nat), k ≤ e.args.length ∧ i = .int .i64 k ∧ Below w.heap.size w wr ∧
        Blk wr (w.heap.size + 1) 40 #[.int .i64 0, .string ⟨#[]⟩, .bool false, .slice none 0 0, .slice none 0 0, .slice none 0 0, .int .i64 0] ∧
        Blk wr (w.heap.size + 1 + 1) 40 #[.int .i64 e.kind, .string (e.name), .bool e.neg, .slice na e.num.length nc, .slice da e.den.length dc, .slice a1 l.length c1, .int .i64 e.pos] ∧
        OwnX (w.heap.size + 3) wr a1 c1 l ∧ Hid (∀ p ∈ l, ∀ V, Ext W0 V → NewBut (w.heap.size + 3) a1 wr V → p.R d V) ∧ l.length = k ∧ Hid (l.map XP.e = Expr.renameds f t (e.args.take k))) (fun i _ => e.args.length - (intOf i).toNat)
      case atStart => exact ⟨0, [], none, 0, by omega, rfl, hbs, hzs, hts, Own.nil, by simp [Hid], rfl, by simp [Hid, Expr.renameds]⟩
      case round =>
        clear hbs hzs hts
        obtain ⟨k, l, a1, c1, hk, rfl, hb, hz, ht, ho, hR, hlk, hmap⟩ := hrel
        replace hlk := Lib.hid hlk
        by_cases hlt : k < e.args.length
        · obtain ⟨x, hx⟩ := get_of_lt hlt
          obtain ⟨b, off, rfl, hE⟩ := HX.out.2.2 k x hx
          obtain ⟨ma, mc, ea, ec, ba, bc, hC, hr⟩ := hE
          obtain ⟨q0, q1, q2, q3, q4, q5, q6⟩ := hC.ext (HE.out.trans (Ext.below hb))
          have hcx := count_arg (List.mem_of_getElem? hx)
          have HXX := Lib.hid hx
          have hs0 := hb.size
          clear hx hC
          go_wp2_with fail
          obtain ⟨g2, hg2⟩ : ∃ g, g = w.heap.size + 1 + 1 := ⟨_, rfl⟩
          rw [← hg2] at ht ⊢
          have hg3 : w.heap.size + 1 < g2 ∧ g2 < w.heap.size + 3 := by omega
          replace hg2 := Lib.hid hg2
          have hb0 : Below wr.heap.size wr (wr.alloc (.cells #[.int .i64 x.kind, .string x.name, .bool x.neg, .slice ma x.num.length mc, .slice ea x.den.length ec, .slice ba x.args.length bc, .int .i64 x.pos] 40)) := by go_grown
          have bx : ExprC (wr.alloc (.cells #[.int .i64 x.kind, .string x.name, .bool x.neg, .slice ma x.num.length mc, .slice ea x.den.length ec, .slice ba x.args.length bc, .int .i64 x.pos] 40)) wr.heap.size 0 ma mc ea ec ba bc x := by simp [ExprC]
          clear q0 q1 q2 q3 q4 q5 q6
          have hsz : (wr.alloc (.cells #[.int .i64 x.kind, .string x.name, .bool x.neg, .slice ma x.num.length mc, .slice ea x.den.length ec, .slice ba x.args.length bc, .int .i64 x.pos] 40)).heap.size = wr.heap.size + 1 := by simp
          revert hb0 bx hsz
          generalize (wr.alloc (.cells #[.int .i64 x.kind, .string x.name, .bool x.neg, .slice ma x.num.length mc, .slice ea x.den.length ec, .slice ba x.args.length bc, .int .i64 x.pos] 40)) = w0
          intro hb0 bx hsz
          replace hsz := Lib.hid hsz
          obtain ⟨k0, k1, k2, k3, k4, k5, k6⟩ := ExprC.held bx
          clear bx
          have hb00 := below_then hb hb0
          have ht0 := ht.below' hb0
          have hz0 := hz.below' hb0
          have ho0 := ho.below hb0
          have hc0 : w0.cell? ⟨g2, 5, none⟩ = some (.slice a1 l.length c1) := ht0.cell 5
          have K7 := held hc0
          clear hc0 hb hz ht
          have s0 : Below w0.heap.size w0 w0.drew := (Below.refl _ _).drew
          refine wp_region_mix (S := Below w0.heap.size w0) [(0, .q), (1, .q), (2, .q), (3, .q), (4, .q), (5, .l), (6, .l), (7, .t), (8, .p), (9, .t)] (by kernel_rfl) (by kernel_rfl) (by kernel_rfl) (fun d _ _ _ _ h => by cases d <;> exact h) (s0) ?_
          iterate 5 (refine wpMix_q rfl rfl (fun K hK => ?_); apply Exists.intro; refine ⟨fun w' hw' => ?_, ?_⟩; (focus (go_simp; try rfl)); go_simp; refine hK _ _ ?_; clear hK K)
          have hcx2 : x.count ≤ 1048576 := by omega
          have IHX := IH.out x ma mc ea ec ba bc W0 w0.drew hr (HE.out.trans (Ext.below (below_then hb00 s0))) hcx2
          unfold Expr.val at IHX
          refine wpMix_l rfl rfl (fun K hK => ?_)
          go_simp
          refine (IHX).mono ?_
          rintro r w2 ⟨p, rfl, hpe, hb2, hpR⟩
          dsimp only
          refine hK.out _ _ (below_then s0 hb2) (fun _ => ?_)
          clear hK K
          have s2 := below_then s0 hb2
          have ht2 := ht0.below' s2
          have hz2 := hz0.below' s2
          have ho2 := ho0.below s2
          have hs2 := s2.size
          have hcap := ho.cap
          replace hpe := Lib.hid hpe
          unfold XP.val Expr.val
          refine wpMix_l rfl rfl (fun K hK => ?_)
          go_simp
          refine hK.out _ _ (s2.alloc hs2 _) (fun _ => ?_)
          clear hK K
          refine wpMix_t rfl rfl (fun K hK => ?_)
          refine wp_append_expr (.tmp 36) (.tmp 41) rfl a1 c1 rfl (ho2.alloc _) p w2.heap.size 1 rfl (fun j u hu => ?_) (l ++ [p]) rfl (by simp; have := hlk.out; omega) (by have := ht0.lt; simp; omega) ?_
          · have e1 := (Blk.new w2 40 (exprC p).toArray).cell j
            simp only [List.getElem?_toArray] at e1
            exact e1.trans hu
          intro a4 c4 w4 ho4 hg4 hx4
          go_simp
          refine hK.out _ _ ?_
          clear hK K
          have ht4 := (ht2.alloc (.cells (exprC p).toArray 40)).under ho2 hg3.2 hg4
          have hz4 := (hz2.alloc (.cells (exprC p).toArray 40)).under ho2 (by omega) hg4
          have hc4 := ht4.cell 5
          have hf4 := ht4.frozen 5
          iterate 1 (refine wpMix_p rfl rfl (fun K hK => ?_); apply Exists.intro; refine ⟨fun w' => ?_, ?_⟩; (focus (go_simp; try rfl)); go_simp; refine hK _ _ ?_; clear hK K)
          refine wpMix_t rfl rfl (fun K hK => ?_)
          go_simp
          refine hK.out _ _ ?_
          clear hK K
          refine wpMix_nil ?_
          have hg2e := hg2.out
          subst hg2e
          go_wp2
          have hb4 : Below w.heap.size w (w4.setCell ⟨w.heap.size + 1 + 1, 5, none⟩ (.slice a4 (l ++ [p]).length c4)) := (((below_append' (below_then hb00 (s2.alloc hs2 _)) (Own.base (ho2.alloc _) (by omega)) hg4)).setCell (by simp; omega) _)
          have hs4 := ht4.set_ 5 (.slice a4 (l ++ [p]).length c4)
          have hz5 := hz4.far (p := ⟨w.heap.size + 1 + 1, 5, none⟩) (by simp) (.slice a4 (l ++ [p]).length c4)
          simp only [List.length_append, List.length_cons, List.length_nil, Nat.zero_add] at hb4 hs4 hz5
          refine ⟨⟨k + 1, l ++ [p], a4, c4, by omega, by go_num, hb4, hz5, ?_, ?_, ?_, ?_, ?_⟩, by simp [intOf]; omega⟩
          · simpa using hs4
          · have := ho4.far (p := ⟨w.heap.size + 1 + 1, 5, none⟩) (by simp) (.slice a4 (l.length + 1) c4)
            exact this
          · intro q hq V hV hN
            replace hN := hN.unset (by simp)
            rcases List.mem_append.1 hq with hq | hq
            · exact hR.out q hq V hV (hN.back (below_then hb0 (s2.alloc hs2 _)) hg4 hx4)
            · simp at hq
              subst hq
              refine hpR V hV (hN.fresh (B' := w0.drew.heap.size) (by have := ht0.lt; simp; omega) (Below.alloc (Below.refl _ _) (Nat.le_refl _) _) hg4 hx4 ?_)
              exact fun g e => (ho0.lt e).2
          · simpa using hlk.out
          · have := hmap.out
            simp only [Hid, List.map_append, List.map_cons, List.map_nil, this, hpe.out]
            rw [take_more HXX.out, renameds_eq, renameds_eq]
            simp
        · have e0 := ht.cell 0; have e1 := ht.cell 1; have e2 := ht.cell 2; have e3 := ht.cell 3; have e4 := ht.cell 4; have e5 := ht.cell 5; have e6 := ht.cell 6
          have z0 := hz.cell 0; have z1 := hz.cell 1; have z2 := hz.cell 2; have z3 := hz.cell 3; have z4 := hz.cell 4; have z5 := hz.cell 5; have z6 := hz.cell 6
          have y0 := hz.frozen 0; have y1 := hz.frozen 1; have y2 := hz.frozen 2; have y3 := hz.frozen 3; have y4 := hz.frozen 4; have y5 := hz.frozen 5; have y6 := hz.frozen 6
          simp only [List.getElem?_toArray, List.getElem?_cons_zero, List.getElem?_cons_succ] at e0 e1 e2 e3 e4 e5 e6 z0 z1 z2 z3 z4 z5 z6
          go_wp2_with fail
          have hF := ((((((hz.set_ 0 (Value.int IntKind.i64 e.kind)).set_ 1 (Value.string (e.name))).set_ 2 (Value.bool e.neg)).set_ 3 (Value.slice na e.num.length nc)).set_ 4 (Value.slice da e.den.length dc)).set_ 5 (Value.slice a1 l.length c1)).set_ 6 (Value.int IntKind.i64 e.pos)
          have ho5 := ((((((ho.far (p := ⟨w.heap.size + 1, 0, none⟩) (by simp) (Value.int IntKind.i64 e.kind)).far (p := ⟨w.heap.size + 1, 1, none⟩) (by simp) (Value.string (e.name))).far (p := ⟨w.heap.size + 1, 2, none⟩) (by simp) (Value.bool e.neg)).far (p := ⟨w.heap.size + 1, 3, none⟩) (by simp) (Value.slice na e.num.length nc)).far (p := ⟨w.heap.size + 1, 4, none⟩) (by simp) (Value.slice da e.den.length dc)).far (p := ⟨w.heap.size + 1, 5, none⟩) (by simp) (Value.slice a1 l.length c1)).far (p := ⟨w.heap.size + 1, 6, none⟩) (by simp) (Value.int IntKind.i64 e.pos)
          have hb5 := ((((((hb.setCell (p := ⟨w.heap.size + 1, 0, none⟩) (by simp) (Value.int IntKind.i64 e.kind)).setCell (p := ⟨w.heap.size + 1, 1, none⟩) (by simp) (Value.string (e.name))).setCell (p := ⟨w.heap.size + 1, 2, none⟩) (by simp) (Value.bool e.neg)).setCell (p := ⟨w.heap.size + 1, 3, none⟩) (by simp) (Value.slice na e.num.length nc)).setCell (p := ⟨w.heap.size + 1, 4, none⟩) (by simp) (Value.slice da e.den.length dc)).setCell (p := ⟨w.heap.size + 1, 5, none⟩) (by simp) (Value.slice a1 l.length c1)).setCell (p := ⟨w.heap.size + 1, 6, none⟩) (by simp) (Value.int IntKind.i64 e.pos)
          have hN5 : ∀ V, NewBut (w.heap.size + 3) a1 (((((((wr.setCell ⟨w.heap.size + 1, 0, none⟩ (Value.int IntKind.i64 e.kind)).setCell ⟨w.heap.size + 1, 1, none⟩ (Value.string (e.name))).setCell ⟨w.heap.size + 1, 2, none⟩ (Value.bool e.neg)).setCell ⟨w.heap.size + 1, 3, none⟩ (Value.slice na e.num.length nc)).setCell ⟨w.heap.size + 1, 4, none⟩ (Value.slice da e.den.length dc)).setCell ⟨w.heap.size + 1, 5, none⟩ (Value.slice a1 l.length c1)).setCell ⟨w.heap.size + 1, 6, none⟩ (Value.int IntKind.i64 e.pos)) V → NewBut (w.heap.size + 3) a1 wr V := fun V h => ((((((h.unset (by simp)).unset (by simp)).unset (by simp)).unset (by simp)).unset (by simp)).unset (by simp)).unset (by simp)
          revert hF ho5 hb5 hN5
          generalize (((((((wr.setCell ⟨w.heap.size + 1, 0, none⟩ (Value.int IntKind.i64 e.kind)).setCell ⟨w.heap.size + 1, 1, none⟩ (Value.string (e.name))).setCell ⟨w.heap.size + 1, 2, none⟩ (Value.bool e.neg)).setCell ⟨w.heap.size + 1, 3, none⟩ (Value.slice na e.num.length nc)).setCell ⟨w.heap.size + 1, 4, none⟩ (Value.slice da e.den.length dc)).setCell ⟨w.heap.size + 1, 5, none⟩ (Value.slice a1 l.length c1)).setCell ⟨w.heap.size + 1, 6, none⟩ (Value.int IntKind.i64 e.pos)) = wf
          intro hF ho5 hb5 hN5
          simp at hF
          have e0 := hF.cell 0; have e1 := hF.cell 1; have e2 := hF.cell 2; have e3 := hF.cell 3; have e4 := hF.cell 4; have e5 := hF.cell 5; have e6 := hF.cell 6
          simp only [List.getElem?_toArray, List.getElem?_cons_zero, List.getElem?_cons_succ] at e0 e1 e2 e3 e4 e5 e6
          have hmap2 := hmap.out
          rw [take_all hlt] at hmap2
          have hlen : (Expr.renameds f t e.args).length = l.length := by rw [← hmap2, List.length_map]
          have hval : (XP.mk (e.renamed f t) na nc da dc a1 c1).val = .agg #[.int .i64 e.kind, .string (e.name), .bool e.neg, .slice na e.num.length nc, .slice da e.den.length dc, .slice a1 l.length c1, .int .i64 e.pos] := by
            rw [Expr.renamed_eq, HNM.out]
            show Value.agg #[.int .i64 e.kind, .string (e.name), .bool e.neg, .slice na e.num.length nc, .slice da e.den.length dc, .slice a1 (Expr.renameds f t e.args).length c1, .int .i64 e.pos] = _
            rw [hlen]
          refine bodyPost_ret (v := (XP.mk (e.renamed f t) na nc da dc a1 c1).val) (by rw [hval]; simp [results, Try.results73, go_sem, e0, e1, e2, e3, e4, e5, e6]) rfl ?_
          refine ⟨_, rfl, rfl, hb5, fun V hV hN => ?_⟩
          have hNN := HN.out
          show ExprR (d + 1) V na nc da dc a1 c1 (e.renamed f t)
          rw [Expr.renamed_eq, HNM.out]
          refine .mk hNN.1 hNN.2.1 hNN.2.2.1 (hNN.2.2.2.1.ext hV) (hNN.2.2.2.2.ext hV) ?_
          show SlR 7 (ExprE d) V a1 c1 (Expr.renameds f t e.args)
          rw [← hmap2]
          have hN3 : New (w.heap.size + 3) wf V := hN.base (by omega)
          exact OwnX.readsIn ho5 hN3 fun p hp => hR.out p hp V hV (hN5 V (hN3.but a1))
end Go.Proofs.Ytmlldjcbijoheaa
