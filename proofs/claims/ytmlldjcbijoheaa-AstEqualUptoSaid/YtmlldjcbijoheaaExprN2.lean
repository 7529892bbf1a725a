/- Walks: the two functions that list the names of an expression. -/
import Derived.Test.YtmlldjcbijoheaaExprN
import Derived.Test.YtmlldjcbijoheaaExprH
namespace Go.Proofs.Ytmlldjcbijoheaa
open Go.RowKit

set_option maxHeartbeats 400000 in
theorem names_any (d : Nat) (e : Expr) (na : Option Addr) (nc : Nat) (da : Option Addr) (dc : Nat) (aa : Option Addr) (ac : Nat) (w : World) (h : ExprR d w na nc da dc aa ac e) (hc : e.count ≤ 1048576) :
    Calls Try.prog 17 #[e.val na nc da dc aa ac] w (RetOwnS w e.names) := by
  have H := Lib.hid h
  clear h
  unfold Expr.val
  go_enter Try.func17, Try.ntmps17
  go_wp2_with fail
  refine (collect_any d w e na nc da dc aa ac [] none 0 _ H.out ((Below.refl _ _).alloc (Nat.le_refl _) _) Own.nil (by simp; omega)).mono ?_
  rintro r w' ⟨a, c, rfl, ho, hb⟩
  rw [collect_nil] at *
  go_wp2_with fail
  go_ret
  exact ⟨a, c, rfl, ho, hb⟩

set_option maxHeartbeats 1000000 in
theorem namesR_any (d : Nat) : ∀ (e : Expr) (na : Option Addr) (nc : Nat) (da : Option Addr) (dc : Nat) (aa : Option Addr) (ac : Nat) (w : World), ExprR d w na nc da dc aa ac e → e.count ≤ 1048576 →
    Calls Try.prog 18 #[e.val na nc da dc aa ac] w (RetOwnS w e.names) := by
  induction d with
  | zero => intro e na nc da dc aa ac w h; exact h.elim
  | succ d ih =>
    intro e na nc da dc aa ac w h hc
    obtain ⟨-, -, -, -, -, hx⟩ := h.of_succ
    have IH := Lib.hid ih
    clear ih
    have HX := Lib.hid hx
    have hl := hx.len
    clear hx h
    unfold Expr.val
    go_enter Try.func18, Try.ntmps18
    go_upto_if 10 with (fail)
    go_cut [3] (fun l' wx => ∃ a' c' l2, l' = .slice a' (List.length l2) c' ∧ OwnS w.heap.size wx a' c' l2 ∧ Below w.heap.size w wx ∧ wx.cell? ⟨w.heap.size, 5, none⟩ = some (.slice aa e.args.length ac) ∧ Hid (l2 = if e.kind = 1 then [e.name] else []))
    case first =>
      by_cases hk : e.kind = 1
      · have hkb : (e.kind == 1) = true := by simpa using hk
        have HK := Lib.hid hk
        clear hk
        go_wp2_with (at_builtin; go_must (refine append_str (B := w.heap.size) rfl (.tmp 11) (.tmp 14) rfl none 0 (l := []) rfl Own.nil e.name (w.heap.size + 1) 1 rfl (by simp) [e.name] rfl (by first | omega | (simp <;> omega)) (by first | omega | (simp <;> omega)) ?_); intro a2 c2 w2 ho2 hg2 hx2)
        go_meet
        refine ⟨a2, c2, [e.name], by simp, ho2, below_append (by go_grown) hg2 (by simp), ?_, by simp [Hid, HK.out]⟩
        exact hg2.cell (by simp) (by simp [Value.ownBlock])
      · have hkb : (e.kind == 1) = false := by simpa using hk
        go_wp2
        go_meet
        exact ⟨none, 0, [], rfl, Own.nil, by go_grown, by simp, by simp [Hid, hk]⟩
    case rest =>
      obtain ⟨a', c', l2, rfl, ho2, hb2, hbox, hl2⟩ := hcut
      have hll : l2.length + Expr.counts e.args ≤ 1048576 := by
        have := Expr.count_eq e
        rw [hl2.out]; split <;> simp <;> omega
      have hc2 := ho2.cap
      go_wp2
      go_loopw [3, 19] (fun s i wr => ∃ (k : Nat) (a1 : Option Addr) (c1 : Nat) (l1 : List ByteArray), k ≤ e.args.length ∧ i = .int .i64 k ∧ s = .slice a1 (List.length l1) c1 ∧ OwnS w.heap.size wr a1 c1 l1 ∧ Below w.heap.size w wr ∧
        Hid (l1 = Expr.namess l2 (e.args.take k))) (fun _ i _ => e.args.length - (intOf i).toNat)
      case atStart => exact ⟨0, a', c', l2, by omega, rfl, rfl, ho2, hb2, by simp [Hid, Expr.namess]⟩
      case round =>
        obtain ⟨k, a1, c1, l1, hk, rfl, rfl, ho1, hb1, hl1⟩ := hrel
        clear ho2 hb2 hbox
        by_cases hlt : k < e.args.length
        · obtain ⟨x, hx⟩ := get_of_lt hlt
          obtain ⟨b, off, rfl, hE⟩ := HX.out.2.2 k x hx
          obtain ⟨na', nc', da', dc', aa', ac', hC, hr⟩ := hE.ext (Ext.below hb1)
          obtain ⟨q0, q1, q2, q3, q4, q5, q6⟩ := hC
          have hcx : l1.length + x.count ≤ 1048576 := by
            have h1 := length_namess (e.args.take k) l2
            have h2 := counts_append (e.args.take k) [x]
            have h3 : Expr.counts (e.args.take (k + 1)) ≤ Expr.counts e.args := by
              have := counts_append (e.args.take (k + 1)) (e.args.drop (k + 1))
              rw [List.take_append_drop] at this; omega
            rw [take_more hx, h2] at h3
            simp only [Expr.counts] at h3
            rw [hl1.out]; omega
          have hnx := length_names x
          have HXX := Lib.hid hx
          clear hx
          go_wp2_with fail
          refine (IH.out x na' nc' da' dc' aa' ac' _ (hr.ext (ext_alloc _ _)) (by omega)).mono ?_
          rintro r w3 ⟨a3, c3, rfl, ho3, hb3⟩
          have hb4 := below_then1 hb1 hb3
          have ho4 := (ho1.alloc (.cells #[Value.int IntKind.i64 x.kind, Value.string x.name, Value.bool x.neg, Value.slice na' x.num.length nc',
                  Value.slice da' x.den.length dc', Value.slice aa' x.args.length ac', Value.int IntKind.i64 x.pos] 40)).below hb3
          have hfar : ∀ g g', a1 = some g → a3 = some g' → g.block ≠ g'.block := fun g g' e1 e3 h => by
            have h1 := (ho1.lt e1).2
            have h3 := (ho3.lt e3).1
            simp at h3; omega
          have hc3 := ho3.cap
          have hso := hb1.size
          obtain ⟨wo, rfl⟩ : ∃ wo : World, wo = wr := ⟨_, rfl⟩
          have HF := Lib.hid hfar
          have HO3 := Lib.hid ho3
          clear hfar ho3 hb3 ho1 q0 q1 q2 q3 q4 q5 q6 hr
          go_wp2_with fail
          go_loopw [3, 26] (fun s i wr => ∃ (j : Nat) (a5 : Option Addr) (c5 : Nat) (l5 : List ByteArray), j ≤ x.names.length ∧ i = .int .i64 j ∧ s = .slice a5 (List.length l5) c5 ∧ OwnS w.heap.size wr a5 c5 l5 ∧ Below w.heap.size w wr ∧
            OwnS w.heap.size wr a3 c3 x.names ∧ Hid (∀ g g', a5 = some g → a3 = some g' → g.block ≠ g'.block) ∧ l5.length ≤ l1.length + j ∧ Hid (l5 = addNames l1 (x.names.take j))) (fun _ i _ => x.names.length - (intOf i).toNat)
          case atStart => exact ⟨0, a1, c1, l1, by omega, rfl, rfl, ho4, hb4, HO3.out.base (by simp; omega), HF.out, by omega, by simp [Hid, addNames]⟩
          case round =>
            obtain ⟨j, a5, c5, l5, hj, rfl, rfl, ho5, hb5, hr5, hf5, hn5, hl5⟩ := hrel
            clear hb4 ho4 HO3 hb1 HF
            have hc5 := ho5.cap
            have hs5 := hb5.size
            by_cases hjt : j < x.names.length
            · obtain ⟨y, hy⟩ := get_of_lt hjt
              obtain ⟨g, rfl, hg, hgl, hcell⟩ := hr5.at1 hy
              have HY := Lib.hid hy
              clear hy
              by_cases hh : hasName l5 y = true
              · go_wp2_with (go_at_call 57; refine (has_any l5 a5 c5 y _ ho5.reads1).mono ?_; rintro e w' ⟨rfl, rfl⟩)
                refine ⟨⟨j + 1, a5, c5, l5, by omega, by go_num, rfl, ho5, hb5, hr5, hf5, by omega, ?_⟩, by simp [intOf]; omega⟩
                rw [take_more HY.out, addNames_append, ← hl5.out]
                simp [Hid, addNames, addName, hh]
              · have hhf : hasName l5 y = false := by simpa using hh
                go_wp2_with (first
                  | (go_at_call 57; refine (has_any l5 a5 c5 y _ ho5.reads1).mono ?_; rintro e w' ⟨rfl, rfl⟩)
                  | (at_builtin; go_must (refine append_str rfl (.tmp 34) (.tmp 36) rfl a5 c5 rfl (ho5.alloc _) y wr.heap.size 1 rfl (by simp) (l5 ++ [y]) rfl (by first | omega | (simp <;> omega)) (by first | omega | (simp <;> omega)) ?_); intro a6 c6 w6 ho6 hg6 hx6))
                refine ⟨⟨j + 1, a6, c6, l5 ++ [y], by omega, by go_num, by simp, ho6, below_append' (hb5.alloc hs5 _) (ho5.alloc _) hg6, ?_, ?_, by simp; omega, ?_⟩, by simp [intOf]; omega⟩
                · refine (hr5.alloc _).grown hg6 (fun g0 e0 e1 => ?_)
                  cases a5 with
                  | none => simp [Value.ownBlock] at e1
                  | some g5 => exact hf5.out g5 g0 rfl e0 (by simpa [Value.ownBlock] using e1)
                · obtain ⟨g1, rfl, h1⟩ := hx6
                  intro g2 g3 e2 e3
                  rcases h1 with h1 | h1
                  · exact hf5.out g2 g3 (h1.trans e2) e3
                  · have := (hr5.lt e3).2
                    injection e2 with e2
                    subst e2
                    simp at h1 ⊢
                    omega
                · rw [take_more HY.out, addNames_append, ← hl5.out]
                  simp [Hid, addNames, addName, hhf]
            · go_wp2_with fail
              refine ⟨⟨k + 1, a5, c5, l5, by omega, by go_num, rfl, ho5, hb5, ?_⟩, by simp [intOf]; omega⟩
              rw [take_more HXX.out, namess_append, ← hl1.out]
              simp only [Hid, Expr.namess]
              rw [hl5.out, take_all hjt]
        · go_wp2_with fail
          go_ret
          have e1 : l1 = e.names := by rw [hl1.out, take_all hlt, Expr.names_eq, hl2.out]
          subst e1
          exact ⟨a1, c1, rfl, ho1, hb1⟩
end Go.Proofs.Ytmlldjcbijoheaa
