/- Walks: the names of expressions. -/
import Derived.Test.YtmlldjcbijoheaaStrs
import Derived.Test.YtmlldjcbijoheaaExprR
namespace Go.Proofs.Ytmlldjcbijoheaa
open Go.RowKit

/-- what a call gives that appends to a slice of strings of its caller's -/
def RetOwnS (W : World) (l : List ByteArray) (r : Ending) (w' : World) : Prop :=
  ∃ a c, r = .returned (.slice a l.length c) ∧ OwnS W.heap.size w' a c l ∧ Below W.heap.size W w'

set_option maxHeartbeats 1000000 in
theorem collect_any (d : Nat) : ∀ (W : World) (e : Expr) (na : Option Addr) (nc : Nat) (da : Option Addr) (dc : Nat) (aa : Option Addr) (ac : Nat) (l : List ByteArray) (a : Option Addr) (c : Nat) (w : World),
    ExprR d W na nc da dc aa ac e → Below W.heap.size W w → OwnS W.heap.size w a c l → l.length + e.count ≤ 16777216 →
    Calls Try.prog 56 #[.slice a l.length c, e.val na nc da dc aa ac] w (RetOwnS W (Expr.collect l e)) := by
  induction d with
  | zero => intro W e na nc da dc aa ac l a c w h; exact h.elim
  | succ d ih =>
    intro W e na nc da dc aa ac l a c w h hb ho hc
    obtain ⟨-, -, -, -, -, hx⟩ := h.of_succ
    have IH := Lib.hid ih
    clear ih
    have HX := Lib.hid hx
    have hl := hx.len
    have hl2 := ho.cap
    have hce : 1 ≤ e.count := by have := Expr.count_eq e; omega
    have hsz := hb.size
    clear hx
    unfold Expr.val
    go_enter Try.func56, Try.ntmps56
    go_upto_if 12 with (fail)
    go_cut [0] (fun l' wx => ∃ a' c' l2, l' = .slice a' (List.length l2) c' ∧ OwnS W.heap.size wx a' c' l2 ∧ Below W.heap.size W wx ∧ wx.cell? ⟨w.heap.size, 5, none⟩ = some (.slice aa e.args.length ac) ∧ Hid (l2 = if e.kind = 1 then addName l e.name else l))
    case first =>
      by_cases hk : e.kind = 1
      · have hkb : (e.kind == 1) = true := by simpa using hk
        have HK := Lib.hid hk
        clear hk
        have HO := Lib.hid ho
        clear ho
        go_wp2
        go_loop [5, 15] (fun f i => ∃ k : Nat, k ≤ l.length ∧ i = .int .i64 k ∧ f = .bool (hasName (l.take k) e.name)) (fun _ i => l.length - (intOf i).toNat)
        case atStart => exact ⟨0, by omega, rfl, by simp [hasName]⟩
        case round =>
          obtain ⟨k, hk, rfl, rfl⟩ := hrel
          by_cases hlt : k < l.length
          · obtain ⟨x, hx⟩ := get_of_lt hlt
            obtain ⟨g, rfl, hg, hgl, hcell⟩ := HO.out.at1 hx
            have HXX := Lib.hid hx
            clear hx
            by_cases hf : hasName (l.take k) e.name = true
            · go_wp2
              refine ⟨⟨_, _, _, ⟨k + 1, by omega, ?_, ?_⟩, rfl, rfl, rfl⟩, by simp [intOf]; omega⟩
              · go_num
              · rw [take_more HXX.out, hasName_more, hf]; rfl
            · have hff : hasName (l.take k) e.name = false := by simpa using hf
              go_wp2
              refine ⟨⟨_, _, _, ⟨k + 1, by omega, ?_, ?_⟩, rfl, rfl, rfl⟩, by simp [intOf]; omega⟩
              · go_num
              · rw [take_more HXX.out, hasName_more, hff, str_beq]; rfl
          · by_cases hf : hasName (l.take k) e.name = true
            · go_wp2
              go_meet
              refine ⟨a, c, l, rfl, HO.out.alloc _, by go_grown, by simp, ?_⟩
              rw [take_all hlt] at hf
              simp [Hid, HK.out, addName, hf]
            · have hff : hasName (l.take k) e.name = false := by simpa using hf
              go_wp2_with (at_builtin; go_must (refine append_str rfl (.tmp 29) (.tmp 32) rfl a c rfl ((HO.out.alloc _).alloc _) e.name (w.heap.size + 1) 1 rfl (by simp) (l ++ [e.name]) rfl (by first | omega | (simp <;> omega)) (by first | omega | (simp <;> omega)) ?_); intro a2 c2 w2 ho2 hg2 hx2)
              go_meet
              rw [take_all hlt] at hff
              refine ⟨a2, c2, l ++ [e.name], by simp, ho2, ?_, HO.out.young hg2 (by simp) (Nat.le_refl _), by simp [Hid, HK.out, addName, hff]⟩
              exact below_append' (by go_grown) ((HO.out.alloc _).alloc _) hg2
      · have hkb : (e.kind == 1) = false := by simpa using hk
        go_wp2
        go_meet
        exact ⟨a, c, l, rfl, ho.alloc _, by go_grown, by simp, by simp [Hid, hk]⟩
    case rest =>
      obtain ⟨a', c', l2, rfl, ho2, hb2, hbox, hl2⟩ := hcut
      have hll : l2.length + Expr.counts e.args ≤ 16777216 := by
        have := Expr.count_eq e
        have h3 := length_addName l e.name
        rw [hl2.out]; split <;> omega
      have hc2 := ho2.cap
      clear hb ho hc hsz
      go_wp2
      go_loopw [0, 37] (fun s i wr => ∃ (k : Nat) (a1 : Option Addr) (c1 : Nat) (l1 : List ByteArray), k ≤ e.args.length ∧ i = .int .i64 k ∧ s = .slice a1 (List.length l1) c1 ∧ OwnS W.heap.size wr a1 c1 l1 ∧ Below W.heap.size W wr ∧
        Hid (l1 = Expr.collects l2 (e.args.take k))) (fun _ i _ => e.args.length - (intOf i).toNat)
      case atStart => exact ⟨0, a', c', l2, by omega, rfl, rfl, ho2, hb2, by simp [Hid, Expr.collects]⟩
      case round =>
        obtain ⟨k, a1, c1, l1, hk, rfl, rfl, ho1, hb1, hl1⟩ := hrel
        clear ho2 hb2 hbox
        by_cases hlt : k < e.args.length
        · obtain ⟨x, hx⟩ := get_of_lt hlt
          obtain ⟨b, off, rfl, hE⟩ := HX.out.2.2 k x hx
          obtain ⟨na', nc', da', dc', aa', ac', hC, hr⟩ := hE
          obtain ⟨q0, q1, q2, q3, q4, q5, q6⟩ := hC.ext (Ext.below hb1)
          clear hC
          have hcx : l1.length + x.count ≤ 16777216 := by
            have h1 := length_collects (e.args.take k) l2
            have h2 := counts_append (e.args.take k) [x]
            have h3 : Expr.counts (e.args.take (k + 1)) ≤ Expr.counts e.args := by
              have := counts_append (e.args.take (k + 1)) (e.args.drop (k + 1))
              rw [List.take_append_drop] at this; omega
            rw [take_more hx, h2] at h3
            simp only [Expr.counts] at h3
            rw [hl1.out]; omega
          have HXX := Lib.hid hx
          clear hx
          go_wp2_with fail
          refine (IH.out W x na' nc' da' dc' aa' ac' l1 a1 c1 _ hr (hb1.alloc hb1.size _) (ho1.alloc _) hcx).mono ?_
          rintro r w' ⟨a3, c3, rfl, ho3, hb3⟩
          go_wp2_with fail
          refine ⟨⟨k + 1, a3, c3, _, by omega, by go_num, rfl, ho3, hb3, ?_⟩, by simp [intOf]; omega⟩
          rw [take_more HXX.out, collects_append, ← hl1.out]
          simp [Hid, Expr.collects]
        · go_wp2_with fail
          go_ret
          have e1 : l1 = Expr.collect l e := by rw [hl1.out, take_all hlt, Expr.collect_eq, hl2.out]
          subst e1
          exact ⟨a1, c1, rfl, ho1, hb1⟩
end Go.Proofs.Ytmlldjcbijoheaa
