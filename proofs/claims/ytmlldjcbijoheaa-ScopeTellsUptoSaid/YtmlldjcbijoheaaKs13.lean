/- Walks: slices.Index and slices.Contains over strings. -/
import Derived.Test.YtmlldjcbijoheaaKs12
import Derived.Lib.SliceRun
import Derived.Test.YtmlldjcbijoheaaKs2
import Derived.Test.YtmlldjcbijoheaaKs9

/- Slices of statements that a call makes itself; slices.Clone over strings. -/
namespace Go.Proofs.Ytmlldjcbijoheaa
open Go.RowKit

/-- a statement with the addresses of its slices -/
structure SQ where
  s : Stmt
  p : SA
def SQ.cs (q : SQ) : List Value := [.int .i64 q.s.kind, .slice q.p.sa q.s.names.length q.p.sc, .int .i64 q.s.expr.kind, .string q.s.expr.name, .bool q.s.expr.neg, .slice q.p.na q.s.expr.num.length q.p.nc, .slice q.p.da q.s.expr.den.length q.p.dc, .slice q.p.aa q.s.expr.args.length q.p.ac, .int .i64 q.s.expr.pos, .int .i64 q.s.pos]
theorem SQ.cs_len (q : SQ) : q.cs.length = 10 := rfl
theorem SQ.cs_one (q : SQ) : ∀ u ∈ q.cs, u.oneCell' = true := by simp [SQ.cs, Value.oneCell']
abbrev OwnQ (B : Nat) (w : World) (a : Option Addr) (c : Nat) (l : List SQ) : Prop := Own SQ.cs 10 49 B w a c l
theorem infoQ : (Try.prog.info? 49).map (fun i => (i.zero, i.size, i.bytes)) = some (some (.agg #[.int .i64 0, .slice none 0 0, .int .i64 0, .string ⟨#[]⟩, .bool false, .slice none 0 0, .slice none 0 0, .slice none 0 0, .int .i64 0, .int .i64 0]), 10, 152) := by kernel_rfl
theorem SQ.cells {w : World} {b o : Nat} {q : SQ} (h : ∀ j u, q.cs[j]? = some u → w.cell? ⟨b, o + j, none⟩ = some u) : StmtC w b o q.p q.s :=
  ⟨by simpa using h 0 _ rfl, h 1 _ rfl, h 2 _ rfl, h 3 _ rfl, h 4 _ rfl, h 5 _ rfl, h 6 _ rfl, h 7 _ rfl, h 8 _ rfl, h 9 _ rfl⟩
def SQ.R (d : Nat) (w : World) (q : SQ) : Prop := StmtR d w q.p q.s
theorem OwnQ.readsIn {B d : Nat} {w V : World} {a : Option Addr} {c : Nat} {l : List SQ} (h : OwnQ B w a c l) (hV : New B w V) (hr : ∀ q ∈ l, q.R d V) : StmtsR d V a c (l.map SQ.s) :=
  Own.readsIn SQ.s SQ.cs_len h hV fun _b _o q hq hc => ⟨q.p, SQ.cells hc, hr q hq⟩
theorem append_stmt {B : Nat} {w : World} {l : List SQ} {ops : Array Oper} {rest : List Oper} {o : Oper} {act : Act} {Q : Exit → Act → World → Prop} (hgd : o.guard = none) (s y : Operand)
    (ho : o.op = .call { callee := .builtin .append, args := #[s, y], argTypes := #[50, 50] })
    (a : Option Addr) (c : Nat) (hs : act.eval s = .slice a l.length c) (hown : OwnQ B w a c l)
    (x : SQ) (b c1 : Nat) (hy : act.eval y = .slice (some ⟨b, 0, none⟩) 1 c1) (hcell : ∀ j u, x.cs[j]? = some u → w.cell? ⟨b, j, none⟩ = some u)
    (l2 : List SQ) (hl2 : l2 = l ++ [x]) (hlen : l2.length ≤ 16777216) (hB : B ≤ w.heap.size)
    (h : ∀ a' c' w', OwnQ B w' a' c' l2 → w.grownBy w' (Value.ownBlock (.slice a l.length c)) → ((∃ g, a' = some ⟨g, 0, none⟩ ∧ (a = some ⟨g, 0, none⟩ ∨ g = w.heap.size))) →
      wpList Try.prog ops Q rest (act.put o.dst (.slice a' l2.length c')) w') : wpList Try.prog ops Q (o :: rest) act w :=
  wpList_append_1 hgd s y 50 ho Try.underlying50 infoQ rfl (by omega) (by omega) SQ.cs_len a c hs hown x (SQ.cs_one x) b c1 hy hcell l2 hl2 hlen hB h
/-- what a call gives that makes a program out of what is read in W0, and an error -/
def RetProg (d : Nat) (W0 w : World) (l : List Stmt) (x : Int) (e : Ending) (w' : World) : Prop :=
  ∃ a c, e = .returned (.tuple #[progVal l.length a c, .int .i64 x]) ∧ Below w.heap.size w w' ∧ ∀ V, Ext W0 V → New w.heap.size w' V → StmtsR d V a c l

theorem OwnS.readsV {B : Nat} {w V : World} {a : Option Addr} {c : Nat} {l : List ByteArray} (h : OwnS B w a c l) (hV : New B w V) : StrsR V a c l := by
  have := Own.readsIn (E := StrE) (β := ByteArray) id strC_len h hV (fun b o x _ hc => show V.cell? _ = _ by simpa using hc 0 _ rfl)
  rwa [List.map_id] at this
/-- a cell of an owned row of strings is set -/
theorem OwnS.set_ {B : Nat} {w : World} {g : Nat} {c : Nat} {l : List ByteArray} (h : OwnS B w (some ⟨g, 0, none⟩) c l) (k : Nat) (s : ByteArray) : OwnS B (w.setCell ⟨g, k, none⟩ (.string s)) (some ⟨g, 0, none⟩) c (l.set k s) := by
  have e : ∀ l : List ByteArray, l.flatMap strC = l.map Value.string := fun l => by
    induction l with
    | nil => rfl
    | cons x l ih => rw [List.flatMap_cons, ih]; rfl
  unfold OwnS Own at h ⊢
  rw [e] at h ⊢
  rcases h with ⟨h1, h2⟩
  refine ⟨by simp, ?_⟩
  rcases h2 with ⟨hv, _⟩ | ⟨g', cap, cur, hv, hg, hh, hn, hm, hc, ht⟩
  · cases hv
  · injection hv with e1 e2 e3
    injection e1 with e1
    injection e1 with e1
    subst e1
    subst e3
    refine .inr ⟨g, c, cur.setIfInBounds k (.string s), by simp, hg, by simp [World.setCell, Array.getElem?_modify, hh], by simpa using hn, hm, by simpa using hc, ?_⟩
    rw [List.map_set, ← ht]
    simp [List.take_set]
theorem OwnS.frozen {B : Nat} {w : World} {g : Nat} {c : Nat} {l : List ByteArray} (h : OwnS B w (some ⟨g, 0, none⟩) c l) (k : Nat) : w.frozen? ⟨g, k, none⟩ = false := by
  rcases h.2 with ⟨hv, _⟩ | ⟨g', cap, cur, hv, hg, hh, _⟩
  · cases hv
  · injection hv with e1
    injection e1 with e1
    injection e1 with e1
    subst e1
    simp [World.frozen?, hh]

set_option maxRecDepth 100000 in
set_option maxHeartbeats 1000000 in
theorem cloneS_any (l : List ByteArray) (a : Option Addr) (c : Nat) (w : World) (h : StrsR w a c l) (hl : l.length ≤ 1000000) :
    Calls Try.prog 70 #[.slice a l.length c] w (RetS19 l w) := by
  cases a with
  | none =>
    have hn : l = [] := by
      cases l with
      | nil => rfl
      | cons x l => obtain ⟨b, off, e, _⟩ := h.2.2 0 x rfl; cases e
    subst hn
    clear h hl
    have q43 : ∀ (w : World) (a : Option Addr) (n c n' c' : Nat), (binOp .eql 43 (.slice a n c) (.slice none n' c')).run Try.prog w = .ok (.bool a.isNone) w := fun w a n c n' c' => Lib.run_eql_slice_nil w _ _ a n c n' c' Try.underlying43
    go_enter Try.func70, Try.ntmps70
    go_wp2
    go_ret
    exact ⟨none, 0, rfl, Own.nil, Below.refl _ _⟩
  | some p =>
    have H := Lib.hid h
    have hlen := h.len
    clear h
    have q43 : ∀ (w : World) (a : Option Addr) (n c n' c' : Nat), (binOp .eql 43 (.slice a n c) (.slice none n' c')).run Try.prog w = .ok (.bool a.isNone) w := fun w a n c n' c' => Lib.run_eql_slice_nil w _ _ a n c n' c' Try.underlying43
    have u43 : ∀ w, Sem.run Try.prog (underlying 43) w = .ok (TypeDesc.slice 9) w := run_underlying Try.underlying43
    have hown : OwnS w.heap.size (w.alloc (.cells #[] 9)) (some ⟨w.heap.size, 0, none⟩) 0 [] := World.ownsRow_made w #[] 0 (Nat.le_refl _) (Nat.zero_le _) rfl
    have hr := H.out.ext (ext_alloc w (.cells #[] 9))
    have hb : Below w.heap.size w (w.alloc (.cells #[] 9)) := by go_grown
    replace hown := Lib.hid hown; replace hr := Lib.hid hr; replace hb := Lib.hid hb
    go_enter Try.func70, Try.ntmps70
    go_wp2_with (at_builtin; go_must (refine append_strs rfl (.tmp 5) (.tmp 6) rfl _ _ rfl hown.out l _ _ rfl hr.out l rfl (by omega) (by simp) ?_; intro a2 c2 w2 ho2 hg2))
    go_ret
    exact ⟨a2, c2, rfl, ho2, hb.out.grown hg2 (by simp) (by simp [Value.ownBlock])⟩
end Go.Proofs.Ytmlldjcbijoheaa

/- Walks: the names of expressions. -/
namespace Go.Proofs.Ytmlldjcbijoheaa
open Go.RowKit

/-- what a call gives that appends to a slice of strings of its caller's -/
def RetOwnS (W : World) (l : List ByteArray) (r : Ending) (w' : World) : Prop :=
  ∃ a c, r = .returned (.slice a l.length c) ∧ OwnS W.heap.size w' a c l ∧ Below W.heap.size W w'

set_option maxHeartbeats 1000000 in
theorem collect_any (d : Nat) : ∀ (W : World) (e : Expr) (na : Option Addr) (nc : Nat) (da : Option Addr) (dc : Nat) (aa : Option Addr) (ac : Nat) (l : List ByteArray) (a : Option Addr) (c : Nat) (w : World),
    ExprR d W na nc da dc aa ac e → Below W.heap.size W w → OwnS W.heap.size w a c l → l.length + e.count ≤ 16777216 →
    Calls Try.prog 56 #[.slice a l.length c, e.val na nc da dc aa ac] w (RetOwnS W (Expr.collect l e)) := by
  induction d with
  | zero => intro W e na nc da dc aa ac l a c w h; exact h.elim
  | succ d ih =>
    intro W e na nc da dc aa ac l a c w h hb ho hc
    obtain ⟨-, -, -, -, -, hx⟩ := h.of_succ
    have IH := Lib.hid ih
    clear ih
    have HX := Lib.hid hx
    have hl := hx.len
    have hl2 := ho.cap
    have hce : 1 ≤ e.count := by have := Expr.count_eq e; omega
    have hsz := hb.size
    clear hx
    unfold Expr.val
    go_enter Try.func56, Try.ntmps56
    go_upto_if 12 with (fail)
    go_cut [0] (fun l' wx => ∃ a' c' l2, l' = .slice a' (List.length l2) c' ∧ OwnS W.heap.size wx a' c' l2 ∧ Below W.heap.size W wx ∧ wx.cell? ⟨w.heap.size, 5, none⟩ = some (.slice aa e.args.length ac) ∧ Hid (l2 = if e.kind = 1 then addName l e.name else l))
    case first =>
      by_cases hk : e.kind = 1
      · have hkb : (e.kind == 1) = true := by simpa using hk
        have HK := Lib.hid hk
        clear hk
        have HO := Lib.hid ho
        clear ho
        go_wp2
        go_loop [5, 15] (fun f i => ∃ k : Nat, k ≤ l.length ∧ i = .int .i64 k ∧ f = .bool (hasName (l.take k) e.name)) (fun _ i => l.length - (intOf i).toNat)
        case atStart => exact ⟨0, by omega, rfl, by simp [hasName]⟩
        case round =>
          obtain ⟨k, hk, rfl, rfl⟩ := hrel
          by_cases hlt : k < l.length
          · obtain ⟨x, hx⟩ := get_of_lt hlt
            obtain ⟨g, rfl, hg, hgl, hcell⟩ := HO.out.at1 hx
            have HXX := Lib.hid hx
            clear hx
            by_cases hf : hasName (l.take k) e.name = true
            · go_wp2
              refine ⟨⟨_, _, _, ⟨k + 1, by omega, ?_, ?_⟩, rfl, rfl, rfl⟩, by simp [intOf]; omega⟩
              · go_num
              · rw [take_more HXX.out, hasName_more, hf]; rfl
            · have hff : hasName (l.take k) e.name = false := by simpa using hf
              go_wp2
              refine ⟨⟨_, _, _, ⟨k + 1, by omega, ?_, ?_⟩, rfl, rfl, rfl⟩, by simp [intOf]; omega⟩
              · go_num
              · rw [take_more HXX.out, hasName_more, hff, str_beq]; rfl
          · by_cases hf : hasName (l.take k) e.name = true
            · go_wp2
              go_meet
              refine ⟨a, c, l, rfl, HO.out.alloc _, by go_grown, by simp, ?_⟩
              rw [take_all hlt] at hf
              simp [Hid, HK.out, addName, hf]
            · have hff : hasName (l.take k) e.name = false := by simpa using hf
              go_wp2_with (at_builtin; go_must (refine append_str rfl (.tmp 29) (.tmp 32) rfl a c rfl ((HO.out.alloc _).alloc _) e.name (w.heap.size + 1) 1 rfl (by simp) (l ++ [e.name]) rfl (by first | omega | (simp <;> omega)) (by first | omega | (simp <;> omega)) ?_); intro a2 c2 w2 ho2 hg2 hx2)
              go_meet
              rw [take_all hlt] at hff
              refine ⟨a2, c2, l ++ [e.name], by simp, ho2, ?_, HO.out.young hg2 (by simp) (Nat.le_refl _), by simp [Hid, HK.out, addName, hff]⟩
              exact below_append' (by go_grown) ((HO.out.alloc _).alloc _) hg2
      · have hkb : (e.kind == 1) = false := by simpa using hk
        go_wp2
        go_meet
        exact ⟨a, c, l, rfl, ho.alloc _, by go_grown, by simp, by simp [Hid, hk]⟩
    case rest =>
      obtain ⟨a', c', l2, rfl, ho2, hb2, hbox, hl2⟩ := hcut
      have hll : l2.length + Expr.counts e.args ≤ 16777216 := by
        have := Expr.count_eq e
        have h3 := length_addName l e.name
        rw [hl2.out]; split <;> omega
      have hc2 := ho2.cap
      clear hb ho hc hsz
      go_wp2
      go_loopw [0, 37] (fun s i wr => ∃ (k : Nat) (a1 : Option Addr) (c1 : Nat) (l1 : List ByteArray), k ≤ e.args.length ∧ i = .int .i64 k ∧ s = .slice a1 (List.length l1) c1 ∧ OwnS W.heap.size wr a1 c1 l1 ∧ Below W.heap.size W wr ∧
        Hid (l1 = Expr.collects l2 (e.args.take k))) (fun _ i _ => e.args.length - (intOf i).toNat)
      case atStart => exact ⟨0, a', c', l2, by omega, rfl, rfl, ho2, hb2, by simp [Hid, Expr.collects]⟩
      case round =>
        obtain ⟨k, a1, c1, l1, hk, rfl, rfl, ho1, hb1, hl1⟩ := hrel
        clear ho2 hb2 hbox
        by_cases hlt : k < e.args.length
        · obtain ⟨x, hx⟩ := get_of_lt hlt
          obtain ⟨b, off, rfl, hE⟩ := HX.out.2.2 k x hx
          obtain ⟨na', nc', da', dc', aa', ac', hC, hr⟩ := hE
          obtain ⟨q0, q1, q2, q3, q4, q5, q6⟩ := hC.ext (Ext.below hb1)
          clear hC
          have hcx : l1.length + x.count ≤ 16777216 := by
            have h1 := length_collects (e.args.take k) l2
            have h2 := counts_append (e.args.take k) [x]
            have h3 : Expr.counts (e.args.take (k + 1)) ≤ Expr.counts e.args := by
              have := counts_append (e.args.take (k + 1)) (e.args.drop (k + 1))
              rw [List.take_append_drop] at this; omega
            rw [take_more hx, h2] at h3
            simp only [Expr.counts] at h3
            rw [hl1.out]; omega
          have HXX := Lib.hid hx
          clear hx
          go_wp2_with fail
          refine (IH.out W x na' nc' da' dc' aa' ac' l1 a1 c1 _ hr (hb1.alloc hb1.size _) (ho1.alloc _) hcx).mono ?_
          rintro r w' ⟨a3, c3, rfl, ho3, hb3⟩
          go_wp2_with fail
          refine ⟨⟨k + 1, a3, c3, _, by omega, by go_num, rfl, ho3, hb3, ?_⟩, by simp [intOf]; omega⟩
          rw [take_more HXX.out, collects_append, ← hl1.out]
          simp [Hid, Expr.collects]
        · go_wp2_with fail
          go_ret
          have e1 : l1 = Expr.collect l e := by rw [hl1.out, take_all hlt, Expr.collect_eq, hl2.out]
          subst e1
          exact ⟨a1, c1, rfl, ho1, hb1⟩
end Go.Proofs.Ytmlldjcbijoheaa

/- Walks: the two functions that list the names of an expression. -/
namespace Go.Proofs.Ytmlldjcbijoheaa
open Go.RowKit

set_option maxHeartbeats 400000 in
theorem names_any (d : Nat) (e : Expr) (na : Option Addr) (nc : Nat) (da : Option Addr) (dc : Nat) (aa : Option Addr) (ac : Nat) (w : World) (h : ExprR d w na nc da dc aa ac e) (hc : e.count ≤ 1048576) :
    Calls Try.prog 17 #[e.val na nc da dc aa ac] w (RetOwnS w e.names) := by
  have H := Lib.hid h
  clear h
  unfold Expr.val
  go_enter Try.func17, Try.ntmps17
  go_wp2_with fail
  refine (collect_any d w e na nc da dc aa ac [] none 0 _ H.out ((Below.refl _ _).alloc (Nat.le_refl _) _) Own.nil (by simp; omega)).mono ?_
  rintro r w' ⟨a, c, rfl, ho, hb⟩
  rw [collect_nil] at *
  go_wp2_with fail
  go_ret
  exact ⟨a, c, rfl, ho, hb⟩

set_option maxHeartbeats 1000000 in
theorem namesR_any (d : Nat) : ∀ (e : Expr) (na : Option Addr) (nc : Nat) (da : Option Addr) (dc : Nat) (aa : Option Addr) (ac : Nat) (w : World), ExprR d w na nc da dc aa ac e → e.count ≤ 1048576 →
    Calls Try.prog 18 #[e.val na nc da dc aa ac] w (RetOwnS w e.names) := by
  induction d with
  | zero => intro e na nc da dc aa ac w h; exact h.elim
  | succ d ih =>
    intro e na nc da dc aa ac w h hc
    obtain ⟨-, -, -, -, -, hx⟩ := h.of_succ
    have IH := Lib.hid ih
    clear ih
    have HX := Lib.hid hx
    have hl := hx.len
    clear hx h
    unfold Expr.val
    go_enter Try.func18, Try.ntmps18
    go_upto_if 10 with (fail)
    go_cut [3] (fun l' wx => ∃ a' c' l2, l' = .slice a' (List.length l2) c' ∧ OwnS w.heap.size wx a' c' l2 ∧ Below w.heap.size w wx ∧ wx.cell? ⟨w.heap.size, 5, none⟩ = some (.slice aa e.args.length ac) ∧ Hid (l2 = if e.kind = 1 then [e.name] else []))
    case first =>
      by_cases hk : e.kind = 1
      · have hkb : (e.kind == 1) = true := by simpa using hk
        have HK := Lib.hid hk
        clear hk
        go_wp2_with (at_builtin; go_must (refine append_str (B := w.heap.size) rfl (.tmp 11) (.tmp 14) rfl none 0 (l := []) rfl Own.nil e.name (w.heap.size + 1) 1 rfl (by simp) [e.name] rfl (by first | omega | (simp <;> omega)) (by first | omega | (simp <;> omega)) ?_); intro a2 c2 w2 ho2 hg2 hx2)
        go_meet
        refine ⟨a2, c2, [e.name], by simp, ho2, below_append (by go_grown) hg2 (by simp), ?_, by simp [Hid, HK.out]⟩
        exact hg2.cell (by simp) (by simp [Value.ownBlock])
      · have hkb : (e.kind == 1) = false := by simpa using hk
        go_wp2
        go_meet
        exact ⟨none, 0, [], rfl, Own.nil, by go_grown, by simp, by simp [Hid, hk]⟩
    case rest =>
      obtain ⟨a', c', l2, rfl, ho2, hb2, hbox, hl2⟩ := hcut
      have hll : l2.length + Expr.counts e.args ≤ 1048576 := by
        have := Expr.count_eq e
        rw [hl2.out]; split <;> simp <;> omega
      have hc2 := ho2.cap
      go_wp2
      go_loopw [3, 19] (fun s i wr => ∃ (k : Nat) (a1 : Option Addr) (c1 : Nat) (l1 : List ByteArray), k ≤ e.args.length ∧ i = .int .i64 k ∧ s = .slice a1 (List.length l1) c1 ∧ OwnS w.heap.size wr a1 c1 l1 ∧ Below w.heap.size w wr ∧
        Hid (l1 = Expr.namess l2 (e.args.take k))) (fun _ i _ => e.args.length - (intOf i).toNat)
      case atStart => exact ⟨0, a', c', l2, by omega, rfl, rfl, ho2, hb2, by simp [Hid, Expr.namess]⟩
      case round =>
        obtain ⟨k, a1, c1, l1, hk, rfl, rfl, ho1, hb1, hl1⟩ := hrel
        clear ho2 hb2 hbox
        by_cases hlt : k < e.args.length
        · obtain ⟨x, hx⟩ := get_of_lt hlt
          obtain ⟨b, off, rfl, hE⟩ := HX.out.2.2 k x hx
          obtain ⟨na', nc', da', dc', aa', ac', hC, hr⟩ := hE.ext (Ext.below hb1)
          obtain ⟨q0, q1, q2, q3, q4, q5, q6⟩ := hC
          have hcx : l1.length + x.count ≤ 1048576 := by
            have h1 := length_namess (e.args.take k) l2
            have h2 := counts_append (e.args.take k) [x]
            have h3 : Expr.counts (e.args.take (k + 1)) ≤ Expr.counts e.args := by
              have := counts_append (e.args.take (k + 1)) (e.args.drop (k + 1))
              rw [List.take_append_drop] at this; omega
            rw [take_more hx, h2] at h3
            simp only [Expr.counts] at h3
            rw [hl1.out]; omega
          have hnx := length_names x
          have HXX := Lib.hid hx
          clear hx
          go_wp2_with fail
          refine (IH.out x na' nc' da' dc' aa' ac' _ (hr.ext (ext_alloc _ _)) (by omega)).mono ?_
          rintro r w3 ⟨a3, c3, rfl, ho3, hb3⟩
          have hb4 := below_then1 hb1 hb3
          have ho4 := (ho1.alloc (.cells #[Value.int IntKind.i64 x.kind, Value.string x.name, Value.bool x.neg, Value.slice na' x.num.length nc',
                  Value.slice da' x.den.length dc', Value.slice aa' x.args.length ac', Value.int IntKind.i64 x.pos] 40)).below hb3
          have hfar : ∀ g g', a1 = some g → a3 = some g' → g.block ≠ g'.block := fun g g' e1 e3 h => by
            have h1 := (ho1.lt e1).2
            have h3 := (ho3.lt e3).1
            simp at h3; omega
          have hc3 := ho3.cap
          have hso := hb1.size
          obtain ⟨wo, rfl⟩ : ∃ wo : World, wo = wr := ⟨_, rfl⟩
          have HF := Lib.hid hfar
          have HO3 := Lib.hid ho3
          clear hfar ho3 hb3 ho1 q0 q1 q2 q3 q4 q5 q6 hr
          go_wp2_with fail
          go_loopw [3, 26] (fun s i wr => ∃ (j : Nat) (a5 : Option Addr) (c5 : Nat) (l5 : List ByteArray), j ≤ x.names.length ∧ i = .int .i64 j ∧ s = .slice a5 (List.length l5) c5 ∧ OwnS w.heap.size wr a5 c5 l5 ∧ Below w.heap.size w wr ∧
            OwnS w.heap.size wr a3 c3 x.names ∧ Hid (∀ g g', a5 = some g → a3 = some g' → g.block ≠ g'.block) ∧ l5.length ≤ l1.length + j ∧ Hid (l5 = addNames l1 (x.names.take j))) (fun _ i _ => x.names.length - (intOf i).toNat)
          case atStart => exact ⟨0, a1, c1, l1, by omega, rfl, rfl, ho4, hb4, HO3.out.base (by simp; omega), HF.out, by omega, by simp [Hid, addNames]⟩
          case round =>
            obtain ⟨j, a5, c5, l5, hj, rfl, rfl, ho5, hb5, hr5, hf5, hn5, hl5⟩ := hrel
            clear hb4 ho4 HO3 hb1 HF
            have hc5 := ho5.cap
            have hs5 := hb5.size
            by_cases hjt : j < x.names.length
            · obtain ⟨y, hy⟩ := get_of_lt hjt
              obtain ⟨g, rfl, hg, hgl, hcell⟩ := hr5.at1 hy
              have HY := Lib.hid hy
              clear hy
              by_cases hh : hasName l5 y = true
              · go_wp2_with (go_at_call 57; refine (has_any l5 a5 c5 y _ ho5.reads1).mono ?_; rintro e w' ⟨rfl, rfl⟩)
                refine ⟨⟨j + 1, a5, c5, l5, by omega, by go_num, rfl, ho5, hb5, hr5, hf5, by omega, ?_⟩, by simp [intOf]; omega⟩
                rw [take_more HY.out, addNames_append, ← hl5.out]
                simp [Hid, addNames, addName, hh]
              · have hhf : hasName l5 y = false := by simpa using hh
                go_wp2_with (first
                  | (go_at_call 57; refine (has_any l5 a5 c5 y _ ho5.reads1).mono ?_; rintro e w' ⟨rfl, rfl⟩)
                  | (at_builtin; go_must (refine append_str rfl (.tmp 34) (.tmp 36) rfl a5 c5 rfl (ho5.alloc _) y wr.heap.size 1 rfl (by simp) (l5 ++ [y]) rfl (by first | omega | (simp <;> omega)) (by first | omega | (simp <;> omega)) ?_); intro a6 c6 w6 ho6 hg6 hx6))
                refine ⟨⟨j + 1, a6, c6, l5 ++ [y], by omega, by go_num, by simp, ho6, below_append' (hb5.alloc hs5 _) (ho5.alloc _) hg6, ?_, ?_, by simp; omega, ?_⟩, by simp [intOf]; omega⟩
                · refine (hr5.alloc _).grown hg6 (fun g0 e0 e1 => ?_)
                  cases a5 with
                  | none => simp [Value.ownBlock] at e1
                  | some g5 => exact hf5.out g5 g0 rfl e0 (by simpa [Value.ownBlock] using e1)
                · obtain ⟨g1, rfl, h1⟩ := hx6
                  intro g2 g3 e2 e3
                  rcases h1 with h1 | h1
                  · exact hf5.out g2 g3 (h1.trans e2) e3
                  · have := (hr5.lt e3).2
                    injection e2 with e2
                    subst e2
                    simp at h1 ⊢
                    omega
                · rw [take_more HY.out, addNames_append, ← hl5.out]
                  simp [Hid, addNames, addName, hhf]
            · go_wp2_with fail
              refine ⟨⟨k + 1, a5, c5, l5, by omega, by go_num, rfl, ho5, hb5, ?_⟩, by simp [intOf]; omega⟩
              rw [take_more HXX.out, namess_append, ← hl1.out]
              simp only [Hid, Expr.namess]
              rw [hl5.out, take_all hjt]
        · go_wp2_with fail
          go_ret
          have e1 : l1 = e.names := by rw [hl1.out, take_all hlt, Expr.names_eq, hl2.out]
          subst e1
          exact ⟨a1, c1, rfl, ho1, hb1⟩
end Go.Proofs.Ytmlldjcbijoheaa

/- Walks: slices.Index and slices.Contains over strings. -/
namespace Go.Proofs.Ytmlldjcbijoheaa
open Go.RowKit

def findFrom (n : ByteArray) (i : Nat) : List ByteArray → Int
  | [] => -1
  | x :: r => if x = n then (i : Int) else findFrom n (i + 1) r
theorem findFrom_at {l : List ByteArray} {n x : ByteArray} {k : Nat} (h : l[k]? = some x) : findFrom n k (l.drop k) = if x = n then (k : Int) else findFrom n (k + 1) (l.drop (k + 1)) := by
  have hk := lt_of_get h
  rw [List.drop_eq_getElem_cons hk]
  have : l[k] = x := by rw [List.getElem?_eq_getElem hk] at h; exact Option.some.inj h
  rw [this, findFrom]
theorem findFrom_end {l : List ByteArray} {n : ByteArray} {k : Nat} (h : ¬ k < l.length) : findFrom n k (l.drop k) = -1 := by rw [List.drop_eq_nil_of_le (by omega)]; rfl

set_option maxHeartbeats 1000000 in
theorem indexS_any (l : List ByteArray) (n : ByteArray) (a : Option Addr) (c : Nat) (w : World) (h : StrsR w a c l) :
    Calls Try.prog 100 #[.slice a l.length c, .string n] w fun e w' => e = .returned (.int .i64 (findFrom n 0 l)) ∧ w = w' := by
  have H := Lib.hid h
  have hlen := h.len
  obtain ⟨r, hr⟩ : ∃ r, findFrom n 0 l = r := ⟨_, rfl⟩
  rw [hr]
  have HR := Lib.hid hr
  clear h hr
  go_enter Try.func100, Try.ntmps100
  go_wp2
  go_loop [5, 8] (fun _ q => ∃ k : Nat, k ≤ l.length ∧ q = .int .i64 k ∧ Hid (findFrom n k (l.drop k) = r)) (fun _ q => l.length - (intOf q).toNat)
  case atStart => exact ⟨0, by omega, rfl, HR.out⟩
  case round =>
    obtain ⟨k, hk, rfl, hp⟩ := hrel
    by_cases hlt : k < l.length
    · obtain ⟨x, hx⟩ := get_of_lt hlt
      obtain ⟨b, off, rfl, hc⟩ := H.out.2.2 k x hx
      have hc1 : w.cell? ⟨b, off + k, none⟩ = some (.string x) := by simpa [StrE] using hc
      have hpa := hp.out
      rw [findFrom_at hx] at hpa
      replace hpa := Lib.hid hpa
      clear hx hc
      by_cases he : x = n
      · have hb : (n.toList == x.toList) = true := by rw [str_beq]; simpa using he.symm
        have hrk : r = k := by have := hpa.out; rw [if_pos he] at this; exact this.symm
        subst hrk
        clear he
        go_wp2
        go_ret
        exact ⟨rfl, rfl⟩
      · have hb : (n.toList == x.toList) = false := by rw [str_beq]; simpa using fun e => he e.symm
        have hpn := hpa.out
        rw [if_neg he] at hpn
        replace hpn := Lib.hid hpn
        clear he
        go_wp2
        go_round
        case rel => exact ⟨k + 1, by omega, by go_num, hpn.out⟩
        case measure => simp [intOf]; omega
    · have hrk : r = -1 := by rw [← hp.out, findFrom_end hlt]
      subst hrk
      go_wp2
      go_ret
      exact ⟨rfl, rfl⟩

theorem findFrom_nonneg (n : ByteArray) : ∀ (l : List ByteArray) (i : Nat), decide (0 ≤ findFrom n i l) = hasName l n
  | [], i => by simp [findFrom, hasName]
  | x :: r, i => by
    have ih := findFrom_nonneg n r (i + 1)
    rw [findFrom]
    unfold hasName at ih ⊢
    rw [List.any_cons]
    by_cases h : x = n
    · rw [if_pos h]; simp [h]
    · rw [if_neg h, ih]; simp [h]
set_option maxHeartbeats 400000 in
theorem containsS_any (l : List ByteArray) (n : ByteArray) (a : Option Addr) (c : Nat) (w : World) (h : StrsR w a c l) :
    Calls Try.prog 68 #[.slice a l.length c, .string n] w fun e w' => e = .returned (.bool (hasName l n)) ∧ w = w' := by
  have CI := indexS_any l n a c w h
  have hf := findFrom_nonneg n l 0
  revert CI hf
  generalize findFrom n 0 l = q
  intro CI hf
  rw [← hf]
  clear h hf
  replace CI := Lib.hid CI
  go_enter Try.func68, Try.ntmps68
  go_wp2_with fail
  refine CI.out.mono ?_
  rintro e w1 ⟨rfl, rfl⟩
  go_wp2
  go_ret
  exact ⟨rfl, rfl⟩
end Go.Proofs.Ytmlldjcbijoheaa
