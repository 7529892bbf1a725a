/- Walks: the measures of expressions. -/
import Derived.Test.YtmlldjcbijoheaaRows
import Derived.Test.YtmlldjcbijoheaaExprR
namespace Go.Proofs.Ytmlldjcbijoheaa
open Go.RowKit

set_option maxHeartbeats 400000 in
theorem depth_any (d : Nat) : ∀ (e : Expr) (na : Option Addr) (nc : Nat) (da : Option Addr) (dc : Nat) (aa : Option Addr) (ac : Nat) (w : World), ExprR d w na nc da dc aa ac e → e.count ≤ 1048576 →
    Calls Try.prog 19 #[e.val na nc da dc aa ac] w fun r w' => r = .returned (.int .i64 (e.depth : Nat)) ∧ Below w.heap.size w w' := by
  induction d with
  | zero => intro e na nc da dc aa ac w h; exact h.elim
  | succ d ih =>
    intro e na nc da dc aa ac w h hc
    obtain ⟨-, -, -, -, -, hx⟩ := h.of_succ
    have IH := Lib.hid ih
    clear ih
    have HX := Lib.hid hx
    have hl := hx.len
    clear hx
    unfold Expr.val
    go_enter Try.func19, Try.ntmps19
    go_wp2
    go_loopw [3, 9] (fun m i wr => ∃ k : Nat, k ≤ e.args.length ∧ i = .int .i64 k ∧ m = .int .i64 (Expr.depths (e.args.take k) : Nat) ∧ Below w.heap.size w wr) (fun _ i _ => e.args.length - (intOf i).toNat)
    case atStart => exact ⟨0, by omega, rfl, by simp [Expr.depths], by go_grown⟩
    case round =>
      obtain ⟨k, hk, rfl, rfl, hb⟩ := hrel
      by_cases hlt : k < e.args.length
      · obtain ⟨x, hx⟩ := get_of_lt hlt
        obtain ⟨b, off, rfl, hE⟩ := HX.out.2.2 k x hx
        obtain ⟨na', nc', da', dc', aa', ac', ⟨c0, c1, c2, c3, c4, c5, c6⟩, hr⟩ := hE.ext (Ext.below hb)
        have hcx := count_arg (List.mem_of_getElem? hx)
        have HXX := Lib.hid hx
        clear hx
        go_wp2_with fail
        refine (IH.out x na' nc' da' dc' aa' ac' _ (hr.ext (ext_alloc _ _)) (by omega)).mono ?_
        rintro r w' ⟨rfl, hb'⟩
        go_wp2_with fail
        refine ⟨⟨k + 1, by omega, by go_num, val_int ?_, below_then1 hb hb'⟩, by simp [intOf]; omega⟩
        rw [take_more HXX.out, depths_append]
        simp only [Expr.depths]
        split <;> omega
      · have hT : Expr.depths (e.args.take k) + 1 ≤ 1048576 := by
          have := depth_le_count e
          rw [take_all hlt, ← Expr.depth_eq]; omega
        go_wp2_with fail
        go_ret
        refine ⟨ret_int ?_, hb⟩
        rw [Expr.depth_eq, take_all hlt]
        omega
set_option maxHeartbeats 400000 in
theorem depthR_any (d : Nat) : ∀ (e : Expr) (na : Option Addr) (nc : Nat) (da : Option Addr) (dc : Nat) (aa : Option Addr) (ac : Nat) (w : World), ExprR d w na nc da dc aa ac e → e.count ≤ 1048576 →
    Calls Try.prog 20 #[e.val na nc da dc aa ac] w fun r w' => r = .returned (.int .i64 (e.depth : Nat)) ∧ Below w.heap.size w w' := by
  induction d with
  | zero => intro e na nc da dc aa ac w h; exact h.elim
  | succ d ih =>
    intro e na nc da dc aa ac w h hc
    obtain ⟨-, -, -, -, -, hx⟩ := h.of_succ
    have IH := Lib.hid ih
    clear ih
    have HX := Lib.hid hx
    have hl := hx.len
    clear hx
    unfold Expr.val
    go_enter Try.func20, Try.ntmps20
    go_wp2
    go_loopw [3, 9] (fun m i wr => ∃ k : Nat, k ≤ e.args.length ∧ i = .int .i64 k ∧ m = .int .i64 (Expr.depths (e.args.take k) : Nat) ∧ Below w.heap.size w wr) (fun _ i _ => e.args.length - (intOf i).toNat)
    case atStart => exact ⟨0, by omega, rfl, by simp [Expr.depths], by go_grown⟩
    case round =>
      obtain ⟨k, hk, rfl, rfl, hb⟩ := hrel
      by_cases hlt : k < e.args.length
      · obtain ⟨x, hx⟩ := get_of_lt hlt
        obtain ⟨b, off, rfl, hE⟩ := HX.out.2.2 k x hx
        obtain ⟨na', nc', da', dc', aa', ac', ⟨c0, c1, c2, c3, c4, c5, c6⟩, hr⟩ := hE.ext (Ext.below hb)
        have hcx := count_arg (List.mem_of_getElem? hx)
        have HXX := Lib.hid hx
        clear hx
        go_wp2_with fail
        refine (IH.out x na' nc' da' dc' aa' ac' _ (hr.ext (ext_alloc _ _)) (by omega)).mono ?_
        rintro r w' ⟨rfl, hb'⟩
        go_wp2_with fail
        refine ⟨⟨k + 1, by omega, by go_num, val_int ?_, below_then1 hb hb'⟩, by simp [intOf]; omega⟩
        rw [take_more HXX.out, depths_append]
        simp only [Expr.depths]
        split <;> omega
      · have hT : Expr.depths (e.args.take k) + 1 ≤ 1048576 := by
          have := depth_le_count e
          rw [take_all hlt, ← Expr.depth_eq]; omega
        go_wp2_with fail
        go_ret
        refine ⟨ret_int ?_, hb⟩
        rw [Expr.depth_eq, take_all hlt]
        omega
set_option maxHeartbeats 400000 in
theorem count_any (d : Nat) : ∀ (e : Expr) (na : Option Addr) (nc : Nat) (da : Option Addr) (dc : Nat) (aa : Option Addr) (ac : Nat) (w : World), ExprR d w na nc da dc aa ac e → e.count ≤ 1048576 →
    Calls Try.prog 55 #[e.val na nc da dc aa ac] w fun r w' => r = .returned (.int .i64 (e.count : Nat)) ∧ Below w.heap.size w w' := by
  induction d with
  | zero => intro e na nc da dc aa ac w h; exact h.elim
  | succ d ih =>
    intro e na nc da dc aa ac w h hc
    obtain ⟨-, -, -, -, -, hx⟩ := h.of_succ
    have IH := Lib.hid ih
    clear ih
    have HX := Lib.hid hx
    have hl := hx.len
    clear hx
    unfold Expr.val
    go_enter Try.func55, Try.ntmps55
    go_wp2
    go_loopw [3, 9] (fun m i wr => ∃ k : Nat, k ≤ e.args.length ∧ i = .int .i64 k ∧ m = .int .i64 (1 + Expr.counts (e.args.take k) : Nat) ∧ Below w.heap.size w wr) (fun _ i _ => e.args.length - (intOf i).toNat)
    case atStart => exact ⟨0, by omega, rfl, by simp [Expr.counts], by go_grown⟩
    case round =>
      obtain ⟨k, hk, rfl, rfl, hb⟩ := hrel
      by_cases hlt : k < e.args.length
      · obtain ⟨x, hx⟩ := get_of_lt hlt
        obtain ⟨b, off, rfl, hE⟩ := HX.out.2.2 k x hx
        obtain ⟨na', nc', da', dc', aa', ac', ⟨c0, c1, c2, c3, c4, c5, c6⟩, hr⟩ := hE.ext (Ext.below hb)
        have hcx := count_arg (List.mem_of_getElem? hx)
        have hcs : 1 + Expr.counts (e.args.take k) + x.count ≤ 1048576 := by
          have h2 := counts_append (e.args.take k) [x]
          have h3 := counts_append (e.args.take (k + 1)) (e.args.drop (k + 1))
          rw [List.take_append_drop, take_more hx, h2] at h3
          have h4 := Expr.count_eq e
          simp only [Expr.counts] at h3
          omega
        have HXX := Lib.hid hx
        clear hx
        go_wp2_with fail
        refine (IH.out x na' nc' da' dc' aa' ac' _ (hr.ext (ext_alloc _ _)) (by omega)).mono ?_
        rintro r w' ⟨rfl, hb'⟩
        go_wp2_with fail
        refine ⟨⟨k + 1, by omega, by go_num, val_int ?_, below_then1 hb hb'⟩, by simp [intOf]; omega⟩
        rw [take_more HXX.out, counts_append]
        simp only [Expr.counts]
        omega
      · go_wp2_with fail
        go_ret
        refine ⟨ret_int ?_, hb⟩
        rw [Expr.count_eq, take_all hlt]
end Go.Proofs.Ytmlldjcbijoheaa
