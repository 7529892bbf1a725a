/- Walk: the closure that writes a word behind the text. -/
import Derived.Test.YtmeplgagpnligaaDoorLx3
import Derived.Test.YtmeplgagpnligaaDoorLx2
import Derived.Laws.Cover4
import Derived.Deep.LoopGhost
import Derived.Deep.CutRange

/- Words for two rows of runes that a call makes itself, each named by a cell of its own, beside a range over a string. -/
namespace Go.Proofs.YtmeplgagpnligaaDoor
open Go.RowKit

def runC (x : UInt8) : List Value := [.int .i32 (x.toNat : Int)]
theorem runC_len (s : UInt8) : (runC s).length = 1 := rfl
theorem runC_one (s : UInt8) : ∀ u ∈ runC s, u.oneCell' = true := by simp [runC, Value.oneCell']
theorem runC_cell {w : World} {b : Nat} {s : UInt8} (h : w.cell? ⟨b, 0, none⟩ = some (.int .i32 (s.toNat : Int))) : ∀ j u, (runC s)[j]? = some u → w.cell? ⟨b, j, none⟩ = some u := by
  intro j u hu
  match j, hu with
  | 0, hu => simp [runC] at hu; subst hu; exact h
theorem runC_map (l : List UInt8) : l.flatMap runC = l.map fun x => Value.int .i32 (x.toNat : Int) := by
  induction l with
  | nil => rfl
  | cons x l ih => rw [List.flatMap_cons, ih]; rfl
abbrev OwnR (B : Nat) (w : World) (a : Option Addr) (c : Nat) (l : List UInt8) : Prop := Own runC 1 21 B w a c l
theorem infoR : (Tryd.prog.info? 21).map (fun i => (i.zero, i.size, i.bytes)) = some (some (.int .i32 0), 1, 4) := by kernel_rfl
section
variable {B : Nat} {w : World} {a : Option Addr} {c : Nat} {l : List UInt8}
theorem OwnR.at1 (h : OwnR B w a c l) {k : Nat} {x : UInt8} (hx : l[k]? = some x) : ∃ g, a = some ⟨g, 0, none⟩ ∧ B ≤ g ∧ g < w.heap.size ∧ w.cell? ⟨g, k, none⟩ = some (.int .i32 (x.toNat : Int)) := by
  obtain ⟨g, ha, hb, hlt, hc⟩ := h.at_ runC_len hx
  exact ⟨g, ha, hb, hlt, by simpa using hc 0 _ rfl⟩
theorem OwnR.frozen {g : Nat} (h : OwnR B w (some ⟨g, 0, none⟩) c l) (k : Nat) : w.frozen? ⟨g, k, none⟩ = false := by
  rcases h.2 with ⟨hv, _⟩ | ⟨g', cap, cur, hv, hg, hh, _⟩
  · cases hv
  · injection hv with e1
    injection e1 with e1
    injection e1 with e1
    subst e1
    simp [World.frozen?, hh]
theorem OwnR.set0 {g : Nat} {x : UInt8} (h : OwnR B w (some ⟨g, 0, none⟩) c [x]) (y : UInt8) : OwnR B (w.setCell ⟨g, 0, none⟩ (.int .i32 (y.toNat : Int))) (some ⟨g, 0, none⟩) c [y] :=
  (World.ownsRow.stored h 0 (.int .i32 (y.toNat : Int))).1
/-- the same block, none of it taken -/
theorem OwnR.none_ (h : OwnR B w a c l) : OwnR B w a c [] := by
  refine ⟨rfl, ?_⟩
  rcases h.2 with ⟨hv, h0⟩ | ⟨g, cap, cur, hv, hg, hh, hn, hm, hc, ht⟩
  · injection hv with e1 e2 e3
    exact .inl ⟨by rw [e1, e3]; simp, rfl⟩
  · injection hv with e1 e2 e3
    exact .inr ⟨g, cap, cur, by rw [e1, e3], hg, hh, Nat.zero_le _, hm, hc, by simp⟩
end
/-- 'l = append(l, c)', c a rune -/
theorem append_rune {B : Nat} {w : World} {l : List UInt8} {ops : Array Oper} {rest : List Oper} {o : Oper} {act : Act} {Q : Exit → Act → World → Prop} (hgd : o.guard = none) (s y : Operand)
    (ho : o.op = .call { callee := .builtin .append, args := #[s, y], argTypes := #[78, 78] })
    (a : Option Addr) (c : Nat) (hs : act.eval s = .slice a l.length c) (hown : OwnR B w a c l)
    (x : UInt8) (b c1 : Nat) (hy : act.eval y = .slice (some ⟨b, 0, none⟩) 1 c1) (hcell : w.cell? ⟨b, 0, none⟩ = some (.int .i32 (x.toNat : Int)))
    (l2 : List UInt8) (hl2 : l2 = l ++ [x]) (hlen : l2.length ≤ 16777216) (hB : B ≤ w.heap.size)
    (h : ∀ a' c' w', OwnR B w' a' c' l2 → w.grownBy w' (Value.ownBlock (.slice a l.length c)) → ((∃ g, a' = some ⟨g, 0, none⟩ ∧ (a = some ⟨g, 0, none⟩ ∨ g = w.heap.size))) →
      wpList Tryd.prog ops Q rest (act.put o.dst (.slice a' l2.length c')) w') : wpList Tryd.prog ops Q (o :: rest) act w :=
  wpList_append_1 hgd s y 78 ho Tryd.underlying78 infoR rfl (by omega) (by omega) runC_len a c hs hown x (runC_one x) b c1 hy (runC_cell hcell) l2 hl2 hlen hB h
/-- 'l = append(l, m...)', m a row of runes of the call's own -/
theorem append_runes {B : Nat} {w : World} {l : List UInt8} {ops : Array Oper} {rest : List Oper} {o : Oper} {act : Act} {Q : Exit → Act → World → Prop} (hgd : o.guard = none) (s y : Operand)
    (ho : o.op = .call { callee := .builtin .append, args := #[s, y], argTypes := #[78, 78] })
    (a : Option Addr) (c : Nat) (hs : act.eval s = .slice a l.length c) (hown : OwnR B w a c l) (m : List UInt8) (b : Option Addr) (c1 : Nat) (hy : act.eval y = .slice b m.length c1) (hm : OwnR B w b c1 m)
    (l2 : List UInt8) (hl2 : l2 = l ++ m) (hlen : l2.length ≤ 16777216) (hB : B ≤ w.heap.size)
    (h : ∀ a' c' w', OwnR B w' a' c' l2 → w.grownBy w' (Value.ownBlock (.slice a l.length c)) → (∀ g, a' = some g → a = some g ∨ g.block = w.heap.size) →
      wpList Tryd.prog ops Q rest (act.put o.dst (.slice a' l2.length c')) w') : wpList Tryd.prog ops Q (o :: rest) act w := by
  subst hl2
  refine wpList_plain hgd fun _ hK => ?_
  cases m with
  | nil =>
    obtain ⟨i, hi, _⟩ := info_parts infoR
    refine wp_append_0 s y 78 ho Tryd.underlying78 hi a l.length c hown.cap.1 hs b c1 hy ?_
    have := h a c w (by simpa using hown) (World.grownBy.refl _ _) (fun g e => .inl e)
    simp only [List.append_nil] at this
    exact hK _ _ this
  | cons x m =>
    obtain ⟨g, hb, _⟩ := hm.at1 (k := 0) rfl
    refine wp_append_n s y 78 ho Tryd.underlying78 infoR rfl (by omega) (by omega) runC_len a c hs hown (x :: m) (by simp) ?_ ⟨g, 0, none⟩ c1 (by rw [hy, hb]) ?_ _ rfl hlen hB
      fun a' c' w' h1 h2 h3 => hK _ _ (h a' c' w' h1 h2 ?_)
    · intro u hu
      simp only [List.mem_flatMap] at hu
      obtain ⟨z, _, hz⟩ := hu
      exact runC_one z u hz
    · intro j u hu
      rw [runC_map, List.getElem?_map] at hu
      obtain ⟨z, hz, rfl⟩ := Option.map_eq_some_iff.1 hu
      obtain ⟨g2, hb2, _, _, hc⟩ := hm.at1 hz
      rw [hb] at hb2
      injection hb2 with e
      injection e with e1
      subst e1
      rw [Addr.add_lit]
      simpa using hc
    · obtain ⟨g3, rfl, h4⟩ := h3
      intro g4 e4
      injection e4 with e4
      subst e4
      exact h4
/-- the state of a call that writes two rows of runes, each named by a cell of its own: the cells gw and go, the names in gn, the string's range gi; all below B, the rows from B on -/
structure RSt (W : World) (gw gn go gi B : Nat) (pm : List UInt8) (s : ByteArray) (pos : Nat) (word out : List UInt8) (a : Option Addr) (c : Nat) (a2 : Option Addr) (c2 : Nat) (w : World) : Prop where
  bw : Blk w gw 78 #[.slice a word.length c]
  bn : Blk w gn 9 #[.string (ofL pm)]
  bo : Blk w go 78 #[.slice a2 out.length c2]
  ow : OwnR B w a c word
  oo : OwnR B w a2 c2 out
  ap : ∀ g g2, a = some g → a2 = some g2 → g.block ≠ g2.block
  it : Itr w gi s pos
  bl : Below W.heap.size W w
  hB : B ≤ w.heap.size
/-- how the cells lie -/
structure RLs (W : World) (gw gn go gi B : Nat) : Prop where
  h1 : W.heap.size ≤ gw
  h2 : W.heap.size ≤ go
  h3 : gw < B
  h4 : go < B
  h5 : gn < B
  h6 : gi < B
  h7 : gw ≠ go
  h8 : gw ≠ gn
  h9 : go ≠ gn
  h10 : gi ≠ gw
  h11 : gi ≠ go
  h12 : W.heap.size ≤ B
section
variable {W w w' : World} {gw gn go gi B : Nat} {pm : List UInt8} {s : ByteArray} {pos : Nat} {word out : List UInt8} {a a2 : Option Addr} {c c2 : Nat}
theorem RSt.alloc (h : RSt W gw gn go gi B pm s pos word out a c a2 c2 w) (o : Obj) : RSt W gw gn go gi B pm s pos word out a c a2 c2 (w.alloc o) :=
  ⟨h.bw.alloc o, h.bn.alloc o, h.bo.alloc o, h.ow.alloc o, h.oo.alloc o, h.ap, (Below.heap_alloc w o gi h.it.lt).trans h.it, h.bl.alloc h.bl.size o, by have := h.hB; simp; omega⟩
theorem RSt.drew (h : RSt W gw gn go gi B pm s pos word out a c a2 c2 w) : RSt W gw gn go gi B pm s pos word out a c a2 c2 w.drew :=
  ⟨h.bw, h.bn, h.bo, h.ow, h.oo, h.ap, h.it, h.bl.drew, h.hB⟩
theorem Itr.setCell (h : Itr w gi s pos) {p : Addr} (hp : gi ≠ p.block) (u : Value) : Itr (w.setCell p u) gi s pos := (Below.heap_setCell w p u gi hp).trans h
theorem row_ne {α : Type} {f : α → List Value} {sz : Nat} {t : TypeId} {g : Nat} {l : List α} (ho : Own f sz t B w a c l) (hg : g < B) (n : Nat) : some g ≠ Value.ownBlock (.slice a n c) := by
  cases a with
  | none => simp [Value.ownBlock]
  | some p => simp [Value.ownBlock]; have := (ho.lt rfl).1; omega
/-- the word's row has turned, and its cell -/
theorem RSt.appw {word' : List UInt8} {a' : Option Addr} {c' : Nat} (L : RLs W gw gn go gi B) (h : RSt W gw gn go gi B pm s pos word out a c a2 c2 w) (ho : OwnR B w' a' c' word') (hg : w.grownBy w' (Value.ownBlock (.slice a word.length c)))
    (hx : ∀ g, a' = some g → a = some g ∨ g.block = w.heap.size) :
    RSt W gw gn go gi B pm s pos word' out a' c' a2 c2 (w'.setCell ⟨gw, 0, none⟩ (.slice a' word'.length c')) where
  bw := by
    have h1 := h.bw.grown hg (row_ne h.ow L.h3 _)
    have := h1.set_ 0 (.slice a' word'.length c')
    simpa using this
  bn := (h.bn.grown hg (row_ne h.ow L.h5 _)).far (p := ⟨gw, 0, none⟩) (Ne.symm L.h8) _
  bo := (h.bo.grown hg (row_ne h.ow L.h4 _)).far (p := ⟨gw, 0, none⟩) (Ne.symm L.h7) _
  ow := ho.far (p := ⟨gw, 0, none⟩) L.h3 _
  oo := (h.oo.grown hg (fun g e => by
    cases ha : a with
    | none => simp [Value.ownBlock]
    | some p => simp [Value.ownBlock]; exact h.ap p g ha e)).far (p := ⟨gw, 0, none⟩) L.h3 _
  ap := fun g g2 e1 e2 => by
    rcases hx g e1 with h1 | h1
    · exact h.ap g g2 h1 e2
    · have := (h.oo.lt e2).2; omega
  it := (h.it.grown hg (row_ne h.ow L.h6 _)).setCell (p := ⟨gw, 0, none⟩) L.h10 _
  bl := ((below_append h.bl hg (fun g e => Nat.le_trans L.h12 (h.ow.lt e).1))).setCell (p := ⟨gw, 0, none⟩) L.h1 _
  hB := by have := h.hB; have := hg.size; simp; omega
/-- the written row has turned, and its cell -/
theorem RSt.appo {out' : List UInt8} {a' : Option Addr} {c' : Nat} (L : RLs W gw gn go gi B) (h : RSt W gw gn go gi B pm s pos word out a c a2 c2 w) (ho : OwnR B w' a' c' out') (hg : w.grownBy w' (Value.ownBlock (.slice a2 out.length c2)))
    (hx : ∀ g, a' = some g → a2 = some g ∨ g.block = w.heap.size) :
    RSt W gw gn go gi B pm s pos word out' a c a' c' (w'.setCell ⟨go, 0, none⟩ (.slice a' out'.length c')) where
  bw := (h.bw.grown hg (row_ne h.oo L.h3 _)).far (p := ⟨go, 0, none⟩) L.h7 _
  bn := (h.bn.grown hg (row_ne h.oo L.h5 _)).far (p := ⟨go, 0, none⟩) (Ne.symm L.h9) _
  bo := by
    have h1 := h.bo.grown hg (row_ne h.oo L.h4 _)
    have := h1.set_ 0 (.slice a' out'.length c')
    simpa using this
  ow := (h.ow.grown hg (fun g e => by
    cases ha : a2 with
    | none => simp [Value.ownBlock]
    | some p => simp [Value.ownBlock]; exact fun e2 => h.ap g p e ha e2.symm)).far (p := ⟨go, 0, none⟩) L.h4 _
  oo := ho.far (p := ⟨go, 0, none⟩) L.h4 _
  ap := fun g g2 e1 e2 => by
    rcases hx g2 e2 with h1 | h1
    · exact h.ap g g2 e1 h1
    · have := (h.ow.lt e1).2; omega
  it := (h.it.grown hg (row_ne h.oo L.h6 _)).setCell (p := ⟨go, 0, none⟩) L.h11 _
  bl := ((below_append h.bl hg (fun g e => Nat.le_trans L.h12 (h.oo.lt e).1))).setCell (p := ⟨go, 0, none⟩) L.h2 _
  hB := by have := h.hB; have := hg.size; simp; omega
/-- the word is none again, in the same row -/
theorem RSt.zero (L : RLs W gw gn go gi B) (h : RSt W gw gn go gi B pm s pos word out a c a2 c2 w) : RSt W gw gn go gi B pm s pos [] out a c a2 c2 (w.setCell ⟨gw, 0, none⟩ (.slice a 0 c)) :=
  RSt.appw (word' := []) (a' := a) (c' := c) L h h.ow.none_ (World.grownBy.refl _ _) (fun g e => .inl e)
/-- the word's one rune is another -/
theorem RSt.turn {x : UInt8} {g : Nat} (L : RLs W gw gn go gi B) (h : RSt W gw gn go gi B pm s pos [x] out (some ⟨g, 0, none⟩) c a2 c2 w) (y : UInt8) :
    RSt W gw gn go gi B pm s pos [y] out (some ⟨g, 0, none⟩) c a2 c2 (w.setCell ⟨g, 0, none⟩ (.int .i32 (y.toNat : Int))) := by
  have hgB := (h.ow.lt rfl).1
  simp at hgB
  have hg : w.grownBy (w.setCell ⟨g, 0, none⟩ (.int .i32 (y.toNat : Int))) (some g) := (World.ownsRow.stored h.ow 0 _).2
  exact ⟨h.bw.far (p := ⟨g, 0, none⟩) (by have := L.h3; simp; omega) _, h.bn.far (p := ⟨g, 0, none⟩) (by have := L.h5; simp; omega) _, h.bo.far (p := ⟨g, 0, none⟩) (by have := L.h4; simp; omega) _, h.ow.set0 y,
    h.oo.grown hg (fun g2 e e2 => h.ap _ g2 rfl e (by injection e2)), h.ap, h.it.setCell (p := ⟨g, 0, none⟩) (by have := L.h6; simp; omega) _,
    h.bl.setCell (p := ⟨g, 0, none⟩) (by have := L.h12; simp; omega) _, by have := h.hB; simpa using this⟩
/-- the range goes on -/
theorem RSt.step (L : RLs W gw gn go gi B) (hW : W.heap.size ≤ gi) (hn : gi ≠ gn) (h : RSt W gw gn go gi B pm s pos word out a c a2 c2 w) (pos' : Nat) : RSt W gw gn go gi B pm s pos' word out a c a2 c2 (setItr w gi s pos') :=
  ⟨(setItr_far w gi s pos' gw (Ne.symm L.h10)).trans h.bw, (setItr_far w gi s pos' gn (Ne.symm hn)).trans h.bn, (setItr_far w gi s pos' go (Ne.symm L.h11)).trans h.bo,
    h.ow.setItr L.h6 s pos', h.oo.setItr L.h6 s pos', h.ap, h.it.set pos', below_setItr h.bl hW s pos', by rw [setItr_size]; exact h.hB⟩
end
/-- the bytes of ASCII runes -/
theorem runes_ascii (l : List UInt8) (h : ∀ x ∈ l, x.toNat < 128) : runesBytes (l.map fun x => (x.toNat : Int)) = ofL l := by
  have key : ∀ (l : List UInt8) (s : List UInt8), (∀ x ∈ l, x.toNat < 128) → (l.map fun x => (x.toNat : Int)).foldl (fun r n => r ++ Utf8.encode n) (ofL s) = ofL (s ++ l) := by
    intro l
    induction l with
    | nil => intro s _; simp
    | cons x l ih =>
      intro s h
      have hx := h x (by simp)
      have e : Utf8.encode (x.toNat : Int) = ofL [x] := by
        have hv : Utf8.valid (x.toNat : Int) = true := by simp [Utf8.valid]; omega
        unfold Utf8.encode
        simp only [hv, if_true, Int.toNat_natCast]
        rw [if_pos hx]
        simp [ofL]
      simp only [List.map_cons, List.foldl_cons]
      rw [e, ofL_app, ih _ (fun y hy => h y (by simp [hy])), List.append_assoc]
      rfl
  exact key l [] h
end Go.Proofs.YtmeplgagpnligaaDoor

/- Walks: letters and digits, on both sides; the names that stand for A, B and C. -/
namespace Go.Proofs.YtmeplgagpnligaaDoor
open Go.RowKit

theorem letB_iff (c : UInt8) (n : Nat) (h : c.toNat = n) : letB c = true ↔ (97 ≤ (n : Int) ∧ (n : Int) ≤ 122) ∨ (65 ≤ (n : Int) ∧ (n : Int) ≤ 90) ∨ (48 ≤ (n : Int) ∧ (n : Int) ≤ 57) := by
  subst h; unfold letB; simp; omega
set_option maxHeartbeats 1000000 in
theorem letter_any (c : UInt8) (w : World) : Calls Tryd.prog 37 #[.int .u8 (c.toNat : Int)] w fun e w' => e = .returned (.bool (letB c)) ∧ w = w' := by
    have hc := c.toNat_lt
    obtain ⟨n, hn⟩ : ∃ n : Nat, c.toNat = n := ⟨_, rfl⟩
    have hL := letB_iff c n hn
    obtain ⟨b, hb⟩ : ∃ b, letB c = b := ⟨_, rfl⟩
    rw [hb] at hL ⊢
    rw [hn] at *
    have HL := Lib.hid hL
    clear hn hb hL
    go_enter Tryd.func37, Tryd.ntmps37
    go_wp2
    all_goals
      go_ret
      refine ⟨ret_bool ?_, rfl⟩
      rw [Bool.eq_iff_iff, HL.out]
      simp
      omega
set_option maxHeartbeats 1000000 in
theorem within_any (c : UInt8) (w : World) : Calls Tryd.prog 41 #[.int .i32 (c.toNat : Int)] w fun e w' => e = .returned (.bool (letB c)) ∧ w = w' := by
    have hc := c.toNat_lt
    obtain ⟨n, hn⟩ : ∃ n : Nat, c.toNat = n := ⟨_, rfl⟩
    have hL := letB_iff c n hn
    obtain ⟨b, hb⟩ : ∃ b, letB c = b := ⟨_, rfl⟩
    rw [hb] at hL ⊢
    rw [hn] at *
    have HL := Lib.hid hL
    clear hn hb hL
    go_enter Tryd.func41, Tryd.ntmps41
    go_wp2
    all_goals
      go_ret
      refine ⟨ret_bool ?_, rfl⟩
      rw [Bool.eq_iff_iff, HL.out]
      simp
      omega
theorem six {v : Nat} (h : v < 6) : v = 0 ∨ v = 1 ∨ v = 2 ∨ v = 3 ∨ v = 4 ∨ v = 5 := by omega
set_option maxHeartbeats 1000000 in
theorem letters_any (v : Nat) (h : v < 6) (w : World) : Calls Tryd.prog 24 #[.int .i64 v] w fun e w' => e = .returned (.string (ofL (perm v))) ∧ w = w' := by
  rcases six h with rfl | rfl | rfl | rfl | rfl | rfl
  all_goals
    clear h
    go_enter Tryd.func24, Tryd.ntmps24
    go_wp2
    go_ret
    exact ⟨rfl, rfl⟩
end Go.Proofs.YtmeplgagpnligaaDoor

/- Walk: the reference's replacement of names in a text. -/
namespace Go.Proofs.YtmeplgagpnligaaDoor
open Go.RowKit

theorem renTo_len (pm : List UInt8) : ∀ (prev : Bool) (s : List UInt8), (renTo pm prev s).length = s.length
  | _, [] => rfl
  | _, c :: r => by simp [renTo, renTo_len pm _ r]
/-- is the sign ahead of place k a letter? -/
def prevL (prev : Bool) (s : List UInt8) (k : Nat) : Bool := match k with
  | 0 => prev
  | j + 1 => ((s[j]?).map letB).getD false
/-- is the sign behind place k a letter? -/
def nextL (s : List UInt8) (k : Nat) : Bool := ((s[k + 1]?).map letB).getD false
/-- what stands at place k behind the replacement -/
def renAt (pm s : List UInt8) (k : Nat) (c : UInt8) : UInt8 := if (!prevL false s k && !nextL s k) && abc c then toAt pm c else c
theorem renTo_get (pm : List UInt8) : ∀ (s : List UInt8) (prev : Bool) (k : Nat) (c : UInt8), s[k]? = some c →
    (renTo pm prev s)[k]? = some (if (!prevL prev s k && !nextL s k) && abc c then toAt pm c else c)
  | [], _, k, c, h => by simp at h
  | x :: r, prev, 0, c, h => by
    simp at h; subst h
    cases r <;> simp [renTo, renC, nextL, prevL]
  | x :: r, prev, k + 1, c, h => by
    have := renTo_get pm r (letB x) k c (by simpa using h)
    simp only [renTo, List.getElem?_cons_succ, this]
    have e1 : prevL (letB x) r k = prevL prev (x :: r) (k + 1) := by cases k <;> simp [prevL]
    have e2 : nextL r k = nextL (x :: r) (k + 1) := by simp [nextL]
    rw [e1, e2]
theorem get_ofL {l : List UInt8} {k : Nat} (h : k < (ofL l).size) : l[k]? = some ((ofL l)[k]'h) := by
  have h2 : k < l.length := by rwa [ofL_size] at h
  rw [List.getElem?_eq_getElem h2]
  rfl
theorem extract_ofL {l : List UInt8} {k : Nat} (h : k < (ofL l).size) : (ofL l).extract k (k + 1) = ofL [(ofL l)[k]'h] := by
  have h2 : k < l.length := by rwa [ofL_size] at h
  have e : (ofL l)[k]'h = l[k] := rfl
  rw [e, ← ofL_data ((ofL l).extract k (k + 1))]
  congr 1
  rw [Lib.extract_data, data_ofL]
  rw [List.drop_eq_getElem_cons h2, show k + 1 - k = 1 by omega]
  rfl
set_option maxHeartbeats 1000000 in
theorem renamed_any (pm l : List UInt8) (hto : pm.length = 3) (hl : l.length ≤ 10000) (w : World) :
    Calls Tryd.prog 22 #[.string (ofL l), .string (ofL pm)] w fun e w' => e = .returned (.string (ofL (renTo pm false l))) ∧ Below w.heap.size w w' := by
  have hsl : (ofL l).size = l.length := ofL_size l
  obtain ⟨R, hR⟩ : ∃ R, renTo pm false l = R := ⟨_, rfl⟩
  have hRl : R.length = l.length := by rw [← hR]; exact renTo_len pm _ _
  have HR := Lib.hid hR
  have HSL := Lib.hid hsl
  have HRL := Lib.hid hRl
  have HTO := Lib.hid hto
  rw [hR]
  have hb1 : (ofL l).size ≤ 10000 := by omega
  clear hR hsl hRl hto
  go_enter Tryd.func22, Tryd.ntmps22
  go_wp2
  have e0 : (⟨#[]⟩ : ByteArray) = ofL [] := rfl
  rw [e0]
  clear e0
  go_loopg [5, 6, 7] (ofL l).size (fun g so si _ wr => ∃ k : Nat, k + g = (ofL l).size ∧ si = .int .i64 k ∧ so = .string (ofL (R.take k)) ∧ Below w.heap.size w wr)
  case atStart => exact ⟨0, by omega, rfl, rfl, Below.refl _ _⟩
  case round =>
    obtain ⟨k, hkg, rfl, rfl, hb⟩ := hrel
    have HKG := Lib.hid hkg
    clear hkg
    by_cases hlt : k < (ofL l).size
    · have hr := renTo_get pm l false k _ (get_ofL hlt)
      rw [HR.out] at hr
      have hnx := take_more hr
      have HNX := Lib.hid hnx
      clear hr hnx
      have hp1 : ∀ h : 0 < k, prevL false l k = letB ((ofL l)[k - 1]'(by omega)) := by
        intro h
        obtain ⟨j, rfl⟩ : ∃ j, k = j + 1 := ⟨k - 1, by omega⟩
        have := get_ofL (l := l) (k := j) (by omega)
        simp [prevL, this]
      have hn1 : ∀ h : k + 1 < (ofL l).size, nextL l k = letB ((ofL l)[k + 1]'h) := by
        intro h
        have := get_ofL (l := l) (k := k + 1) h
        simp [nextL, this]
      have hn2 : k + 1 = (ofL l).size → nextL l k = false := by
        intro h
        have : l[k + 1]? = none := by rw [List.getElem?_eq_none]; have := HSL.out; omega
        simp [nextL, this]
      obtain ⟨p, hp⟩ : ∃ p, prevL false l k = p := ⟨_, rfl⟩
      obtain ⟨n, hn⟩ : ∃ n, nextL l k = n := ⟨_, rfl⟩
      rw [hp] at hp1 HNX
      rw [hn] at hn1 hn2 HNX
      have HP1 := Lib.hid hp1; have HN1 := Lib.hid hn1; have HN2 := Lib.hid hn2
      have hp0 : k = 0 → p = false := by intro h; subst h; rw [← hp]; rfl
      have HP0 := Lib.hid hp0
      clear hp hn hp1 hn1 hn2 hp0
      go_upto_region 5 with fail
      go_cut [7] from 14 to 38 (fun s7 wc => s7 = .bool (!p && !n) ∧ wr = wc)
      case first =>
        by_cases hk0 : k = 0
        · have e := HP0.out hk0
          subst e
          subst hk0
          clear HP0 HP1 HKG HNX
          by_cases h1 : (ofL l).size = 1
          · have e := HN2.out h1.symm
            subst e
            have h1b : ((1 : Int) == ((ofL l).size : Int)) = true := by rw [h1]; rfl
            clear h1 HN1 HN2
            go_wp2
            go_meet
            case rel => exact ⟨rfl, rfl⟩
          · have h1b : ((1 : Int) == ((ofL l).size : Int)) = false := by rw [beq_eq_false_iff_ne]; omega
            have e := HN1.out (by omega)
            have E := Lib.hid e
            clear e
            go_wp2_with fail
            refine (letter_any _ _).mono ?_
            rintro e w1 ⟨rfl, rfl⟩
            go_wp2
            go_meet
            case rel => exact ⟨by rw [E.out]; rfl, rfl⟩
        · clear HP0
          have e := HP1.out (by omega)
          have E1 := Lib.hid e
          have hk1 : (0 : Int) ≤ (k : Int) - 1 := by omega
          have hk2 : ((k : Int) - 1).toNat = k - 1 := by omega
          have hk3 : ((k : Int) == 0) = false := by rw [beq_eq_false_iff_ne]; omega
          clear e HP1
          go_wp2_with fail
          refine (letter_any _ _).mono ?_
          rintro e w1 ⟨rfl, rfl⟩
          rw [← E1.out]
          clear E1
          cases p
          · by_cases h1 : k + 1 = (ofL l).size
            · have e := HN2.out h1
              subst e
              have h1b : ((k : Int) + 1 == ((ofL l).size : Int)) = true := by rw [beq_iff_eq]; omega
              clear h1 HN1 HN2
              go_wp2
              go_meet
              case rel => exact ⟨rfl, rfl⟩
            · have h1b : ((k : Int) + 1 == ((ofL l).size : Int)) = false := by rw [beq_eq_false_iff_ne]; omega
              have e := HN1.out (by omega)
              have E := Lib.hid e
              have hk4 : k + 1 < (ofL l).size := by omega
              have hk5 : ((k : Int) + 1).toNat = k + 1 := by omega
              clear e HN1 HN2
              go_wp2_with fail
              refine (letter_any _ _).mono ?_
              rintro e w1 ⟨rfl, rfl⟩
              go_wp2
              go_meet
              case rel => exact ⟨by rw [E.out]; rfl, rfl⟩
          · go_wp2
            go_meet
            case rel => exact ⟨rfl, rfl⟩
      case rest =>
        obtain ⟨rfl, hwc⟩ := hcut
        subst hwc
        obtain ⟨a, ha⟩ : ∃ a, (!p && !n) = a := ⟨_, rfl⟩
        rw [ha] at HNX ⊢
        clear ha HP0 HP1 HN1 HN2
        obtain ⟨c, hc⟩ : ∃ c, (ofL l)[k]'hlt = c := ⟨_, rfl⟩
        rw [hc] at HNX
        have hcl := c.toNat_lt
        have hab : abc c = true ↔ 65 ≤ (c.toNat : Int) ∧ (c.toNat : Int) ≤ 67 := by unfold abc; simp; omega
        have hx1 := extract_ofL hlt
        rw [hc] at hx1
        have htl : (R.take k).length ≤ 10000 := by have := HRL.out; rw [List.length_take]; omega
        have hz1 : (ofL (R.take k)).size + (ofL [c]).size ≤ 10001 := by rw [ofL_size, ofL_size]; simp; omega
        have hn1 : ¬ 9223372036854775807 < (ofL (R.take k)).size + (ofL [c]).size := by omega
        obtain ⟨x, hx⟩ : ∃ x, (if (a && abc c) = true then toAt pm c else c) = x := ⟨_, rfl⟩
        rw [hx] at HNX
        have HX := Lib.hid hx
        have hap : ∀ d, ofL (R.take k) ++ ofL [d] = ofL (R.take k ++ [d]) := fun d => ofL_app _ _
        have HAP := Lib.hid hap
        clear hx hap htl
        cases a
        · have e : c = x := by rw [← HX.out]; simp
          subst e
          clear HX hab
          go_wp2
          go_roundg (gk - 1)
          case rel => exact ⟨k + 1, by have := HKG.out; omega, by go_num, by rw [HNX.out, ← HAP.out], hb⟩
          case measure => have := HKG.out; omega
        · have hx2 : abc c = true → toAt pm c = x := by intro h; rw [← HX.out, h]; simp
          have hx3 : abc c = false → c = x := by intro h; rw [← HX.out, h]; simp
          by_cases h65 : 65 ≤ (c.toNat : Int)
          · by_cases h67 : (c.toNat : Int) ≤ 67
            · have e := hx2 (hab.2 ⟨h65, h67⟩)
              have hcl2 : (c.toNat : Int) ≤ 255 := by omega
              obtain ⟨m, hm⟩ : ∃ m : Nat, (c.toNat : Int) = 65 + m := ⟨c.toNat - 65, by omega⟩
              have hm3 : m < (ofL pm).size := by rw [ofL_size, HTO.out]; omega
              have hx4 := extract_ofL hm3
              have hpx : (ofL pm)[m]'hm3 = x := by
                rw [← e]
                have : c.toNat - 65 = m := by omega
                have h5 := get_ofL hm3
                unfold toAt
                rw [this, h5]; rfl
              rw [hpx] at hx4
              have hw1 : IntKind.u8.wrap ((c.toNat : Int) - 65) = (m : Int) := by rw [hm, show (65 + m : Int) - 65 = m by omega]; exact IntWalk.u8_in _ (by omega)
              have hw2 : IntKind.u8.wrap ((m : Int) + 1) = (m : Int) + 1 := IntWalk.u8_in _ (by omega)
              have hm0 : 0 ≤ (m : Int) := by omega
              have hm1 : (m : Int) ≤ (m : Int) + 1 := by omega
              have hm2 : (m : Int) + 1 ≤ ((ofL pm).size : Int) := by omega
              have hmn : ((m : Int) + 1).toNat = m + 1 := by omega
              have hz2 : ¬ 9223372036854775807 < (ofL (R.take k)).size + (ofL [x]).size := by rw [ofL_size, ofL_size, List.length_take]; simp; omega
              have hk0 : ¬ (k : Int) < 0 := by omega
              have HM := Lib.hid hm
              clear HX hab hx2 hx3 hpx e hm
              go_wp2
              refine wp_region_mix (S := (fun V => V = wr.drew)) [(0, .q), (1, .q), (2, .q), (3, .q), (4, .q), (5, .q), (6, .q), (7, .q), (8, .q), (9, .q), (10, .q), (11, .q), (12, .p), (13, .p)] (by kernel_rfl) (by kernel_rfl) (by kernel_rfl) (fun d _ _ _ _ h => by cases d <;> exact h) (rfl) ?_
              iterate 12 (refine wpMix_q rfl rfl (fun K hK => ?_); apply Exists.intro; refine ⟨fun w' hw' => ?_, ?_⟩; (focus (go_simp; try rfl)); go_simp; refine hK _ _ ?_; clear hK K)
              iterate 2 (refine wpMix_p rfl rfl (fun K hK => ?_); apply Exists.intro; refine ⟨fun w' => ?_, ?_⟩; (focus (go_simp; try rfl)); go_simp; refine hK _ _ ?_; clear hK K)
              refine wpMix_nil ?_
              go_wp2
              go_roundg (gk - 1)
              case rel => exact ⟨k + 1, by have := HKG.out; omega, by go_num, by rw [HNX.out, ← HAP.out], hb.drew⟩
              case measure => have := HKG.out; omega
            · skip
              have hf : abc c = false := by rw [← Bool.not_eq_true, hab]; omega
              have e := hx3 hf
              subst e
              clear HX hab hx2 hx3 hf
              go_wp2
              go_roundg (gk - 1)
              case rel => exact ⟨k + 1, by have := HKG.out; omega, by go_num, by rw [HNX.out, ← HAP.out], hb⟩
              case measure => have := HKG.out; omega
          · skip
            have hf : abc c = false := by rw [← Bool.not_eq_true, hab]; omega
            have e := hx3 hf
            subst e
            clear HX hab hx2 hx3 hf
            go_wp2
            go_roundg (gk - 1)
            case rel => exact ⟨k + 1, by have := HKG.out; omega, by go_num, by rw [HNX.out, ← HAP.out], hb⟩
            case measure => have := HKG.out; omega
    · obtain rfl : k = (ofL l).size := by have := HKG.out; omega
      have ht : R.take (ofL l).size = R := List.take_of_length_le (by have := HRL.out; have := HSL.out; omega)
      rw [ht]
      go_wp2
      go_ret
      exact ⟨rfl, hb⟩
end Go.Proofs.YtmeplgagpnligaaDoor

/- Walk: the closure that writes a word behind the text. -/
namespace Go.Proofs.YtmeplgagpnligaaDoor
open Go.RowKit

set_option maxHeartbeats 1000000 in
theorem flush_any {W : World} {gw gn go gi B : Nat} {pm : List UInt8} {s : ByteArray} {pos : Nat} {word out : List UInt8} {a a2 : Option Addr} {c c2 : Nat} {w : World} (L : RLs W gw gn go gi B) (h : RSt W gw gn go gi B pm s pos word out a c a2 c2 w)
    (hpm : pm.length = 3) (hl : out.length + word.length ≤ 10000) :
    Calls Tryd.prog 40 #[.pointer (some ⟨gw, 0, none⟩), .pointer (some ⟨gn, 0, none⟩), .pointer (some ⟨go, 0, none⟩)] w fun e w' => e = .returned (.tuple #[]) ∧ ∃ a' c' a2' c2', RSt W gw gn go gi B pm s pos [] (out ++ flushP pm word) a' c' a2' c2' w' := by
  have HL := Lib.hid L
  have HP := Lib.hid hpm
  have x0 := h.bw.cell 0; have x1 := h.bn.cell 0; have x2 := h.bo.cell 0
  have H := Lib.hid h
  clear L h hpm
  match word, hl with
  | [], hl =>
    have hFL : flushP pm ([] : List UInt8) = ([] : List UInt8) := rfl
    have FL := Lib.hid hFL
    clear hFL
    go_enter Tryd.func40, Tryd.ntmps40
    obtain ⟨O, hO⟩ : ∃ O, O = out ++ ([] : List UInt8) := ⟨_, rfl⟩
    have hOl : O.length ≤ 16777216 := by rw [hO]; simp at hl ⊢; omega
    have HO := Lib.hid hO
    clear hO
    go_wp2_with (at_builtin; go_must (refine append_runes rfl (.tmp 27) (.tmp 28) rfl a2 c2 rfl H.out.oo ([] : List UInt8) a c rfl H.out.ow O HO.out hOl H.out.hB ?_); intro a3 c3 w3 ho3 hg3 hx3; have f3 := (H.out.bo.grown hg3 (row_ne H.out.oo HL.out.h4 _)).frozen 0; have f4 := (H.out.bo.grown hg3 (row_ne H.out.oo HL.out.h4 _)).cell 0; replace H := Lib.hid (RSt.appo HL.out H.out ho3 hg3 hx3); have y0 := H.out.bw.cell 0; have y1 := H.out.bw.frozen 0)
    exact ⟨rfl, .tuple #[], by kernel_rfl, rfl, _, _, _, _, by rw [FL.out, ← HO.out]; exact RSt.zero HL.out H.out⟩
  | x :: y :: r, hl =>
    have hFL : flushP pm (x :: y :: r) = x :: y :: r := rfl
    have FL := Lib.hid hFL
    have hb : (((x :: y :: r).length : Int) == 1) = false := by rw [beq_eq_false_iff_ne]; simp; omega
    obtain ⟨WD, hWD⟩ : ∃ WD, x :: y :: r = WD := ⟨_, rfl⟩
    simp only [hWD] at *
    clear hFL hWD
    go_enter Tryd.func40, Tryd.ntmps40
    obtain ⟨O, hO⟩ : ∃ O, O = out ++ WD := ⟨_, rfl⟩
    have hOl : O.length ≤ 16777216 := by rw [hO]; simp at hl ⊢; omega
    have HO := Lib.hid hO
    clear hO
    go_wp2_with (at_builtin; go_must (refine append_runes rfl (.tmp 27) (.tmp 28) rfl a2 c2 rfl H.out.oo WD a c rfl H.out.ow O HO.out hOl H.out.hB ?_); intro a3 c3 w3 ho3 hg3 hx3; have f3 := (H.out.bo.grown hg3 (row_ne H.out.oo HL.out.h4 _)).frozen 0; have f4 := (H.out.bo.grown hg3 (row_ne H.out.oo HL.out.h4 _)).cell 0; replace H := Lib.hid (RSt.appo HL.out H.out ho3 hg3 hx3); have y0 := H.out.bw.cell 0; have y1 := H.out.bw.frozen 0)
    exact ⟨rfl, .tuple #[], by kernel_rfl, rfl, _, _, _, _, by rw [FL.out, ← HO.out]; exact RSt.zero HL.out H.out⟩
  | [x], hl =>
    obtain ⟨g, rfl, hgB, hgl, hgc⟩ := H.out.ow.at1 (k := 0) rfl
    have hFL : flushP pm [x] = if abc x then [toAt pm x] else [x] := rfl
    obtain ⟨n, hn⟩ : ∃ n : Nat, x.toNat = n := ⟨_, rfl⟩
    have hcl := x.toNat_lt
    have hab : abc x = true ↔ 65 ≤ (n : Int) ∧ (n : Int) ≤ 67 := by rw [← hn]; unfold abc; simp; omega
    by_cases h65 : 65 ≤ (n : Int)
    · by_cases h67 : (n : Int) ≤ 67
      · have hf : abc x = true := hab.2 ⟨h65, h67⟩
        rw [hf] at hFL
        obtain ⟨y, hy⟩ : ∃ y, toAt pm x = y := ⟨_, rfl⟩
        rw [hy] at hFL
        have FL := Lib.hid (show flushP pm [x] = [y] from hFL)
        obtain ⟨m, hm⟩ : ∃ m : Nat, (n : Int) = 65 + m := ⟨n - 65, by omega⟩
        have hm3 : m < (ofL pm).size := by rw [ofL_size, HP.out]; omega
        have hpx : (ofL pm)[m]'hm3 = y := by
          rw [← hy]
          have : x.toNat - 65 = m := by omega
          have h5 := get_ofL hm3
          unfold toAt
          rw [this, h5]; rfl
        have hw1 : IntKind.i32.wrap ((n : Int) - 65) = (m : Int) := by rw [hm, show (65 + m : Int) - 65 = m by omega]; exact IntWalk.i32_in _ (by omega)
        have hyl := y.toNat_lt
        have hw2 : IntKind.i32.wrap (y.toNat : Int) = (y.toNat : Int) := IntWalk.i32_in _ (by omega)
        have hm0 : 0 ≤ (m : Int) := by omega
        have hm2 : (m : Int) < ((ofL pm).size : Int) := by omega
        have hmn : (m : Int).toNat = m := by omega
        have hgf := OwnR.frozen H.out.ow 0
        have hnw : g ≠ gw := by have := HL.out.h3; omega
        clear hFL hab hf hy hm
        go_enter Tryd.func40, Tryd.ntmps40
        go_wp2
        refine wp_region_mix (S := (fun V => V = w.drew)) [(0, .q), (1, .q), (2, .q), (3, .q), (4, .q), (5, .q), (6, .q), (7, .q), (8, .p), (9, .t)] (by kernel_rfl) (by kernel_rfl) (by kernel_rfl) (fun d _ _ _ _ h => by cases d <;> exact h) (rfl) ?_
        iterate 8 (refine wpMix_q rfl rfl (fun K hK => ?_); apply Exists.intro; refine ⟨fun w' hw' => ?_, ?_⟩; (focus (go_simp; try rfl)); go_simp; refine hK _ _ ?_; clear hK K)
        iterate 1 (refine wpMix_p rfl rfl (fun K hK => ?_); apply Exists.intro; refine ⟨fun w' => ?_, ?_⟩; (focus (go_simp; try rfl)); go_simp; refine hK _ _ ?_; clear hK K)
        refine wpMix_t rfl rfl (fun K hK => ?_)
        go_simp
        refine hK.out _ _ ?_
        clear hK K
        refine wpMix_nil ?_
        replace H := Lib.hid (RSt.turn HL.out H.out y).drew
        have x0 := H.out.bw.cell 0; have x1 := H.out.bn.cell 0; have x2 := H.out.bo.cell 0
        clear hgc hgf
        obtain ⟨O, hO⟩ : ∃ O, O = out ++ [y] := ⟨_, rfl⟩
        have hOl : O.length ≤ 16777216 := by rw [hO]; simp at hl ⊢; omega
        have HO := Lib.hid hO
        clear hO
        go_wp2_with (at_builtin; go_must (refine append_runes rfl (.tmp 27) (.tmp 28) rfl a2 c2 rfl H.out.oo [y] (some ⟨g, 0, none⟩) c rfl H.out.ow O HO.out hOl H.out.hB ?_); intro a3 c3 w3 ho3 hg3 hx3; have f3 := (H.out.bo.grown hg3 (row_ne H.out.oo HL.out.h4 _)).frozen 0; have f4 := (H.out.bo.grown hg3 (row_ne H.out.oo HL.out.h4 _)).cell 0; replace H := Lib.hid (RSt.appo HL.out H.out ho3 hg3 hx3); have y0 := H.out.bw.cell 0; have y1 := H.out.bw.frozen 0)
        exact ⟨rfl, .tuple #[], by kernel_rfl, rfl, _, _, _, _, by rw [FL.out, ← HO.out]; exact RSt.zero HL.out H.out⟩
      · skip
        have hf : abc x = false := by rw [← Bool.not_eq_true, hab]; omega
        have hFL2 : flushP pm [x] = [x] := by rw [hFL, hf]; rfl
        have FL := Lib.hid hFL2
        clear hFL hab hf hFL2
        go_enter Tryd.func40, Tryd.ntmps40
        obtain ⟨O, hO⟩ : ∃ O, O = out ++ [x] := ⟨_, rfl⟩
        have hOl : O.length ≤ 16777216 := by rw [hO]; simp at hl ⊢; omega
        have HO := Lib.hid hO
        clear hO
        go_wp2_with (at_builtin; go_must (refine append_runes rfl (.tmp 27) (.tmp 28) rfl a2 c2 rfl H.out.oo [x] (some ⟨g, 0, none⟩) c rfl H.out.ow O HO.out hOl H.out.hB ?_); intro a3 c3 w3 ho3 hg3 hx3; have f3 := (H.out.bo.grown hg3 (row_ne H.out.oo HL.out.h4 _)).frozen 0; have f4 := (H.out.bo.grown hg3 (row_ne H.out.oo HL.out.h4 _)).cell 0; replace H := Lib.hid (RSt.appo HL.out H.out ho3 hg3 hx3); have y0 := H.out.bw.cell 0; have y1 := H.out.bw.frozen 0)
        exact ⟨rfl, .tuple #[], by kernel_rfl, rfl, _, _, _, _, by rw [FL.out, ← HO.out]; exact RSt.zero HL.out H.out⟩
    · skip
      have hf : abc x = false := by rw [← Bool.not_eq_true, hab]; omega
      have hFL2 : flushP pm [x] = [x] := by rw [hFL, hf]; rfl
      have FL := Lib.hid hFL2
      clear hFL hab hf hFL2
      go_enter Tryd.func40, Tryd.ntmps40
      obtain ⟨O, hO⟩ : ∃ O, O = out ++ [x] := ⟨_, rfl⟩
      have hOl : O.length ≤ 16777216 := by rw [hO]; simp at hl ⊢; omega
      have HO := Lib.hid hO
      clear hO
      go_wp2_with (at_builtin; go_must (refine append_runes rfl (.tmp 27) (.tmp 28) rfl a2 c2 rfl H.out.oo [x] (some ⟨g, 0, none⟩) c rfl H.out.ow O HO.out hOl H.out.hB ?_); intro a3 c3 w3 ho3 hg3 hx3; have f3 := (H.out.bo.grown hg3 (row_ne H.out.oo HL.out.h4 _)).frozen 0; have f4 := (H.out.bo.grown hg3 (row_ne H.out.oo HL.out.h4 _)).cell 0; replace H := Lib.hid (RSt.appo HL.out H.out ho3 hg3 hx3); have y0 := H.out.bw.cell 0; have y1 := H.out.bw.frozen 0)
      exact ⟨rfl, .tuple #[], by kernel_rfl, rfl, _, _, _, _, by rw [FL.out, ← HO.out]; exact RSt.zero HL.out H.out⟩
end Go.Proofs.YtmeplgagpnligaaDoor
