/- The digit of a long division that is guessed from the first limbs. No function of the program in sight. -/
import Derived.Test.YtfahnnkppakiiaaCr5
import Derived.Laws.CopyOwn
import Derived.Test.YtfahnnkppakiiaaCr1
import Derived.Maps.Range
import Derived.Maps.AppendAt
import Derived.Test.YtfahnnkppakiiaaCr2
import Derived.Laws.BitsAllLaws
import Derived.Deep.LoopGhost
import Derived.Test.YtfahnnkppakiiaaCr3

/- Walks: the program's natural numbers: trim, Norm, Of. -/
namespace Go.Proofs.Ytfahnnkppakiiaa
open Go.RowKit

set_option maxHeartbeats 1000000 in
theorem trim_any (l : List Int) (a : Option Addr) (c : Nat) (w : World) (h : NatR w a c l) :
    Calls Try.prog 113 #[.slice a l.length c] w fun e w' => e = .returned (.slice a (limbs (val l)).length c) ∧ w = w' := by
  have H := Lib.hid h
  have hlen := SlR.len h
  have hcap := h.1
  have hcap2 := h.2.1
  unfold maxLen at hcap2
  obtain ⟨R, hR⟩ : ∃ q, (limbs (val l)).length = q := ⟨_, rfl⟩
  rw [hR]
  have HR := Lib.hid hR
  clear h hR
  go_enter Try.func113, Try.ntmps113
  go_wp2
  obtain ⟨wo, rfl⟩ : ∃ wo : World, wo = w := ⟨_, rfl⟩
  go_loopg [3] l.length (fun n q wr => n ≤ l.length ∧ q = .int .i64 n ∧ wo = wr ∧ Hid (val (l.drop n) = 0))
  case atStart => exact ⟨Nat.le_refl _, rfl, rfl, by simp [Hid, val]⟩
  case round =>
    obtain ⟨hn, rfl, rfl, hv⟩ := hrel
    by_cases h0 : gk = 0
    · subst h0
      have hr : R = 0 := by rw [← HR.out, trim_zero hv.out]; simp
      subst hr
      have hzc : (0 : Int) ≤ (c : Int) := by omega
      have hz1 : ¬ ((0 : Int) < ((0 : Nat) : Int)) := by omega
      go_wp2
      go_ret
      exact ⟨rfl, rfl⟩
    · obtain ⟨m, rfl⟩ : ∃ m, gk = m + 1 := ⟨gk - 1, by omega⟩
      obtain ⟨x, hx⟩ := get_of_lt (xs := l) (k := m) (by omega)
      obtain ⟨b, off, rfl, hc⟩ := H.out.cell hx
      have e1 : (((m + 1 : Nat) : Int)) = (m : Int) + 1 := by omega
      rw [e1]
      have hml : m < l.length := by omega
      have HX := Lib.hid hx
      by_cases hx0 : x = 0
      · have hxb : (x == 0) = true := by simpa using hx0
        have hv2 := Lib.hid (trim_more HX.out hx0 hv.out)
        clear hx0 hx hv e1
        go_wp2
        go_roundg m
        case rel => exact ⟨by omega, by first | rfl | go_num, rfl, hv2.out⟩
        case measure => omega
      · have hxb : (x == 0) = false := by simpa using hx0
        have hr : R = m + 1 := by rw [← HR.out, trim_stop H.out.u16 HX.out hx0 hv.out, List.length_take]; omega
        subst hr
        have hmc : (m : Int) + 1 ≤ (c : Int) := by omega
        clear hx0 hx hv e1
        go_wp2
        go_ret
        exact ⟨rfl, rfl⟩

theorem sizeN : (Try.prog.info? 80).map (·.size) = some 1 := by kernel_rfl
set_option maxRecDepth 100000 in
set_option maxHeartbeats 1000000 in
theorem norm_any (l : List Int) (a : Option Addr) (c : Nat) (w : World) (h : NatR w a c l) (hl : l.length ≤ 16777216) :
    Calls Try.prog 90 #[.slice a l.length c] w (RetN (limbs (val l)) w) := by
  have CT := trim_any l a c w h
  have hT := h.trim
  have hlT : (limbs (val l)).length ≤ 16777216 := by have := limbs_len_val h.u16; omega
  have huT := limbs_u16 (val l)
  revert CT hT hlT huT
  generalize limbs (val l) = T
  intro CT hT hlT huT
  replace CT := Lib.hid CT
  clear h
  by_cases h0 : T.length = 0
  · obtain rfl : T = [] := List.length_eq_zero_iff.1 h0
    clear h0 hT
    go_enter Try.func90, Try.ntmps90
    go_wp2_with fail
    refine CT.out.mono ?_
    rintro e w1 ⟨rfl, rfl⟩
    go_wp2
    go_ret
    exact ⟨none, 0, rfl, fun _ _ => SlR.nil, Below.refl _ _⟩
  · obtain ⟨x, hx⟩ := get_of_lt (xs := T) (k := 0) (by omega)
    obtain ⟨b, off, rfl, _⟩ := hT.cell hx
    have HT := Lib.hid hT
    have hmk := run_make_nat .i64 T.length hlT w
    have h0i : ((T.length : Int) == 0) = false := by rw [beq_eq_false_iff_ne]; omega
    clear hx hT h0
    go_enter Try.func90, Try.ntmps90
    go_wp2_with fail
    refine CT.out.mono ?_
    rintro e w1 ⟨rfl, rfl⟩
    have hg := Blk.new w 80 (madeCells #[.int .u16 0] T.length)
    have hms : (madeCells #[.int .u16 0] T.length).size = T.length := by simp [madeCells]
    have hsrc : ∀ j v, (T.map (Value.int .u16))[j]? = some v → (w.alloc (.cells (madeCells #[.int .u16 0] T.length) 80)).cell? ((⟨b, off, none⟩ : Addr).add j) = some v := fun j v hv => by
      rw [List.getElem?_map] at hv
      obtain ⟨y, hy, rfl⟩ := Option.map_eq_some_iff.1 hv
      obtain ⟨b2, off2, e2, hc2⟩ := HT.out.cell hy
      injection e2 with e2
      injection e2 with e3 e4
      subst e3
      subst e4
      rw [Addr.add_lit]
      exact Ext.alloc (Ext.refl w) _ _ _ hc2
    have HG := Lib.hid hg
    have HSRC := Lib.hid hsrc
    have HMS := Lib.hid hms
    have HMK := Lib.hid hmk
    clear hg hsrc hms
    have hcp := run_copy_row (P := Try.prog) (w.alloc (.cells (madeCells #[.int .u16 0] T.length) 80)) 29 29 3 80 w.heap.size 0 T.length T.length ⟨b, off, none⟩ T.length c _ 80 (T.map (Value.int .u16)) Try.underlying29 sizeN HG.out (by simp) HSRC.out (by rw [HMS.out]; simp) (by simp [Value.oneCell'])
    have hX : (madeCells #[.int .u16 0] T.length).toList.take 0 ++ T.map (Value.int .u16) ++ (madeCells #[.int .u16 0] T.length).toList.drop (0 + (T.map (Value.int .u16)).length) = T.map (Value.int .u16) := by
      rw [List.take_zero, List.nil_append, List.drop_eq_nil_of_le (by rw [Array.length_toList, HMS.out]; simp), List.append_nil]
    rw [hX] at hcp
    have hF : BlkN ((w.alloc (.cells (madeCells #[.int .u16 0] T.length) 80)).setRow w.heap.size (T.map (Value.int .u16)).toArray) w.heap.size T := setRow_heap _ _ _ _ _ _ HG.out
    have hB : Below w.heap.size w ((w.alloc (.cells (madeCells #[.int .u16 0] T.length) 80)).setRow w.heap.size (T.map (Value.int .u16)).toArray) := below_setRow ((Below.refl _ _).alloc (Nat.le_refl _) _) (Nat.le_refl _) _
    revert hF hB hcp
    generalize (w.alloc (.cells (madeCells #[.int .u16 0] T.length) 80)).setRow w.heap.size (T.map (Value.int .u16)).toArray = w2
    intro hcp hF hB
    go_wp2
    go_ret
    exact ⟨_, _, rfl, fun V hV => hF.readsV (Nat.le_refl _) hV huT (Nat.le_refl _) (by unfold maxLen; omega), hB⟩
end Go.Proofs.Ytfahnnkppakiiaa

/- A world in which only one block that was there may have turned. No function of the program in sight. -/
namespace Go.Proofs.Ytfahnnkppakiiaa
open Go.RowKit
section
variable {w w' w'' : World} {g : Nat}
theorem but_refl (w : World) (g : Nat) : w.grownBy w (some g) := World.grownBy.refl _ _
theorem but_alloc (h : w.grownBy w' (some g)) (o : Obj) : w.grownBy (w'.alloc o) (some g) := h.trans (World.grownBy_alloc _ _ _)
theorem but_drew (h : w.grownBy w' (some g)) : w.grownBy w'.drew (some g) := ⟨h.os, h.tape, h.output, h.size, h.block⟩
theorem but_drewN (h : w.grownBy w' (some g)) (n : Nat) : w.grownBy (w'.drewN n) (some g) := ⟨h.os, h.tape, h.output, h.size, h.block⟩
theorem but_set (h : w.grownBy w' (some g)) (i : Nat) (u : Value) : w.grownBy (w'.setCell ⟨g, i, none⟩ u) (some g) :=
  h.trans ⟨rfl, rfl, rfl, by simp [World.setCell], fun k _ hk => Below.heap_setCell _ _ _ _ (fun e => hk (by simp at e; rw [e]))⟩
theorem but_set_new (h : w.grownBy w' (some g)) {p : Addr} (hp : w.heap.size ≤ p.block) (u : Value) : w.grownBy (w'.setCell p u) (some g) :=
  ⟨h.os, h.tape, h.output, by have := h.size; simpa [World.setCell] using this, fun k hk hne => (Below.heap_setCell _ _ _ _ (by omega)).trans (h.block k hk hne)⟩
theorem but_below (h : w.grownBy w' (some g)) (hb : Below w'.heap.size w' w'') : w.grownBy w'' (some g) :=
  ⟨hb.os.trans h.os, hb.tape.trans h.tape, hb.output.trans h.output, Nat.le_trans h.size hb.size, fun k hk hne => (hb.block k (Nat.lt_of_lt_of_le hk h.size)).trans (h.block k hk hne)⟩
theorem but_append {α : Type} {f : α → List Value} {sz : Nat} {t : TypeId} {B : Nat} {W : World} {a : Option Addr} {c : Nat} {l : List α} (h : w.grownBy w' (some g)) (ho : Own f sz t B W a c l) (hB : w.heap.size ≤ B)
    (hg : w'.grownBy w'' (Value.ownBlock (.slice a l.length c))) : w.grownBy w'' (some g) :=
  h.andThen hg fun j hj => .inl (by
    cases a with
    | none => simp [Value.ownBlock] at hj
    | some p => simp [Value.ownBlock] at hj; have := (ho.lt rfl).1; omega)
theorem below_but {B : Nat} {w0 : World} (hb : Below B w0 w) (h : w.grownBy w' (some g)) (hg : B ≤ g) (hB : B ≤ w.heap.size) : Below B w0 w' := hb.grown h hB (fun k hk => by injection hk with hk; omega)
theorem New.but_back {B : Nat} {V : World} (h : New B w' V) (hg : w.grownBy w' (some g)) : NewBut B (some ⟨g, 0, none⟩) w V := fun p v hp hne hc =>
  h p v hp (hg.cell hc (fun e => hne _ rfl (by injection e)))
theorem NewBut.but_back {B : Nat} {V : World} (h : NewBut B (some ⟨g, 0, none⟩) w' V) (hg : w.grownBy w' (some g)) : NewBut B (some ⟨g, 0, none⟩) w V := fun p v hp hne hc =>
  h p v hp hne (hg.cell hc (fun e => hne _ rfl (by injection e)))
theorem Own.but {α : Type} {f : α → List Value} {sz : Nat} {t : TypeId} {B : Nat} {a : Option Addr} {c : Nat} {l : List α} (ho : Own f sz t B w a c l) (h : w.grownBy w' (some g)) (hB : g < B) : Own f sz t B w' a c l :=
  ho.grown h fun p hp e => by have := (ho.lt hp).1; injection e with e; omega
theorem Own.but2 {α : Type} {f : α → List Value} {sz : Nat} {t : TypeId} {B : Nat} {a : Option Addr} {c : Nat} {l : List α} (ho : Own f sz t B w a c l) (h : w.grownBy w' (some g)) (hne : ∀ p, a = some p → p.block ≠ g) : Own f sz t B w' a c l :=
  ho.grown h fun p hp e => by have := hne p hp; injection e with e; omega
theorem below_app {α : Type} {f : α → List Value} {sz : Nat} {t : TypeId} {B B' : Nat} {w0 W : World} {a : Option Addr} {c : Nat} {l : List α} (h : Below B w0 w) (ho : Own f sz t B' W a c l) (hB : B ≤ B') (hs : B ≤ w.heap.size)
    (hg : w.grownBy w' (Value.ownBlock (.slice a l.length c))) : Below B w0 w' := h.grown hg hs fun k hk => by
  cases a with
  | none => simp [Value.ownBlock] at hk
  | some p => simp [Value.ownBlock] at hk; have := (ho.lt rfl).1; omega
end
end Go.Proofs.Ytfahnnkppakiiaa

/- Rows of limbs in blocks that a call writes itself: the first cells are the limbs, behind them lies anything. No function of the program in sight. -/
namespace Go.Proofs.Ytfahnnkppakiiaa
open Go.RowKit

/-- block g is a row of these limbs, and behind them the cells r -/
def RowN (w : World) (g : Nat) (l : List Int) (r : List Value) : Prop := Blk w g 80 (l.map (Value.int .u16) ++ r).toArray
section
variable {w w' : World} {g : Nat} {l : List Int} {r : List Value}
theorem RowN.lt (h : RowN w g l r) : g < w.heap.size := Blk.lt h
theorem RowN.cell (h : RowN w g l r) {i : Nat} {x : Int} (hx : l[i]? = some x) : w.cell? ⟨g, i, none⟩ = some (.int .u16 x) := by
  have hi := lt_of_get hx
  rw [Blk.cell h i]
  simp only [List.getElem?_toArray]
  rw [List.getElem?_append_left (by simpa using hi), List.getElem?_map, hx]
  rfl
theorem RowN.frozen (h : RowN w g l r) (i : Nat) : w.frozen? ⟨g, i, none⟩ = false := Blk.frozen h i
theorem RowN.set_ (h : RowN w g l r) {i : Nat} (hi : i < l.length) (x : Int) : RowN (w.setCell ⟨g, i, none⟩ (.int .u16 x)) g (l.set i x) r := by
  have := Blk.set_ h i (.int .u16 x)
  unfold RowN
  rw [List.setIfInBounds_toArray, List.set_append_left _ _ (by simpa using hi), ← List.map_set] at this
  exact this
theorem RowN.below (h : RowN w g l r) (hb : Below w.heap.size w w') : RowN w' g l r := Blk.below' h hb
theorem RowN.alloc (h : RowN w g l r) (o : Obj) : RowN (w.alloc o) g l r := Blk.alloc h o
theorem RowN.far (h : RowN w g l r) {p : Addr} (hp : g ≠ p.block) (u : Value) : RowN (w.setCell p u) g l r := Blk.far h hp u
theorem RowN.but {g' : Nat} (h : RowN w g l r) (hg : w.grownBy w' (some g')) (hne : g ≠ g') : RowN w' g l r := Blk.grown h hg (fun e => hne (by injection e))
theorem RowN.cut (h : RowN w g l r) (k : Nat) : RowN w g (l.take k) ((l.drop k).map (Value.int .u16) ++ r) := by
  unfold RowN at h ⊢
  rw [← List.append_assoc, ← List.map_append, List.take_append_drop]
  exact h
theorem RowN.of (h : BlkN w g l) : RowN w g l [] := by
  unfold RowN
  rw [List.append_nil]
  exact h
/-- the row's first limbs are owned -/
theorem RowN.own (h : RowN w g l r) {B : Nat} (hB : B ≤ g) {c : Nat} (hc : c = l.length + r.length) (hm : c ≤ maxLen) (k : Nat) (hk : k ≤ l.length) : OwnN B w (some ⟨g, 0, none⟩) c (l.take k) := by
  subst hc
  have hl : (l.take k).length = k := by simp; omega
  refine ⟨by rw [flatMap_len natC_len], .inr ⟨g, _, _, rfl, hB, h, by omega, hm, by simp, ?_⟩⟩
  rw [natC_map, hl, Nat.mul_one, List.take_append_of_le_length (by simpa using hk), List.map_take]
/-- an owned row lies in a block of its own -/
theorem own_row {B : Nat} {a : Option Addr} {c : Nat} (h : OwnN B w a c l) (h0 : 0 < l.length) : ∃ g r, a = some ⟨g, 0, none⟩ ∧ B ≤ g ∧ c = l.length + r.length ∧ RowN w g l r := by
  rcases h.2 with ⟨_, hn⟩ | ⟨g, cap, cur, e, hg, hh, hc, hm, hs, ht⟩
  · omega
  · injection e with e1 e2 e3
    subst e1
    subst e3
    refine ⟨g, cur.toList.drop l.length, rfl, hg, by simp only [List.length_drop, Array.length_toList, hs]; omega, ?_⟩
    unfold RowN Blk
    rw [hh]
    rw [natC_map, Nat.mul_one] at ht
    rw [← ht, List.take_append_drop]
theorem RowN.readsAt (h : RowN w g l r) (hs : U16 l) (j k c : Nat) (hk : k ≤ c) (hc : c ≤ maxLen) : NatR w (some ⟨g, j, none⟩) c ((l.drop j).take k) := by
  refine ⟨by simp; omega, hc, fun i x hx => ⟨g, j, rfl, ?_⟩⟩
  rw [List.getElem?_take] at hx
  split at hx
  · rw [List.getElem?_drop] at hx
    exact ⟨by simpa using h.cell hx, u16_wf (hs x (List.mem_of_getElem? hx))⟩
  · cases hx
theorem RowN.readsV (h : RowN w g l r) {B : Nat} {V : World} (hB : B ≤ g) (hV : New B w V) (hs : U16 l) {c : Nat} (hc : l.length ≤ c) (hm : c ≤ maxLen) : NatR V (some ⟨g, 0, none⟩) c l :=
  ⟨hc, hm, fun k x hx => ⟨g, 0, rfl, by simpa using hV _ _ (by simpa using hB) (h.cell hx), u16_wf (hs x (List.mem_of_getElem? hx))⟩⟩
/-- limbs that lie in another block stay -/
theorem NatR.other {a : Option Addr} {c : Nat} (h : NatR w a c l) (hg : w.grownBy w' (some g)) (hne : ∀ p, a = some p → p.block ≠ g) : NatR w' a c l := by
  refine ⟨h.1, h.2.1, fun k x hx => ?_⟩
  obtain ⟨b, off, rfl, hc, hw⟩ := h.2.2 k x hx
  exact ⟨b, off, rfl, hg.cell hc (fun e => hne _ rfl (by injection e)), hw⟩
end
/-- 'make(api.Nat, n, c)' -/
theorem run_make_nat2 (k : IntKind) (n c : Nat) (hn : n ≤ c) (hc : c ≤ 16777216) (w : World) :
    (Instr.makeSlice 29 (.int k (n : Int)) (.int k (c : Int))).run Try.prog w = .ok (.slice (some ⟨w.heap.size, 0, none⟩) n c) (w.alloc (.cells (madeCells #[.int .u16 0] c) 80)) := by
  obtain ⟨i, hi, hzz⟩ := Option.map_eq_some_iff.1 infoN
  simp only [Prod.mk.injEq] at hzz
  obtain ⟨hz, hs, hb⟩ := hzz
  have hr := run_make (P := Try.prog) w 29 80 i (.int .u16 0) Try.underlying29 hi hz k k n c (by omega) (by omega) (by rw [hb]; omega) (by omega)
  simp only [Int.toNat_natCast, hs, Nat.mul_one] at hr
  exact hr
end Go.Proofs.Ytfahnnkppakiiaa

/- Walks: the program's natural numbers: Of, Uint. -/
namespace Go.Proofs.Ytfahnnkppakiiaa
open Go.RowKit

theorem uint_bits {n y q z : Nat} (c : Nat) (hn : n < c) (hy : y ≤ 65535) (hc : c ≤ 281474976710656) (hz : n ||| y * c = q) (e : (z : Int) = (y : Int) * (c : Int)) : bits .or .u64 (n : Int) (z : Int) = (q : Int) := by
  have h1 : z = y * c := by
    have : ((z : Nat) : Int) = ((y * c : Nat) : Int) := by rw [e]; simp
    omega
  subst h1
  have h2 : y * c ≤ 65535 * 281474976710656 := Nat.mul_le_mul hy hc
  rw [u64_or_nat _ _ (by omega) (by omega), hz]
theorem wrap16 (n : Nat) : IntKind.u16.wrap (n : Int) = ((n % 65536 : Nat) : Int) := by simp [IntKind.wrap, IntKind.bits, IntKind.signed]
theorem wrap32u (n : Nat) : IntKind.u32.wrap (n : Int) = ((n % 4294967296 : Nat) : Int) := by simp [IntKind.wrap, IntKind.bits, IntKind.signed]
theorem wrap64u (n : Nat) : IntKind.u64.wrap (n : Int) = ((n % 18446744073709551616 : Nat) : Int) := by simp [IntKind.wrap, IntKind.bits, IntKind.signed]
set_option maxHeartbeats 1000000 in
theorem of_any (n : Nat) (w : World) (hn : n < 18446744073709551616) :
    Calls Try.prog 85 #[.int .u64 n] w (RetN (limbs n) w) := by
  go_enter Try.func85, Try.ntmps85
  go_wp2
  go_loopw [0, 3] (fun i s wr => ∃ (m : Nat) (l : List Int) (a : Option Addr) (c : Nat), m ≤ n ∧ i = .int .u64 m ∧ s = .slice a l.length c ∧ OwnN w.heap.size wr a c l ∧ U16 l ∧ l.length ≤ 1000 ∧ Below w.heap.size w wr ∧ Hid (limbs n = l ++ limbs m)) (fun i _ _ => (intOf i).toNat)
  case atStart => exact ⟨n, [], none, 0, Nat.le_refl _, rfl, rfl, Own.nil, U16.nil, by simp, Below.refl _ _, rfl⟩
  case round =>
    obtain ⟨m, l, a, c, hm, rfl, rfl, ho, hU, hlen, hb, hr⟩ := hrel
    have HO := Lib.hid ho
    clear ho
    by_cases h0 : m = 0
    · subst h0
      have HR : limbs n = l := by have := hr.out; rw [limbs_zero] at this; simpa using this
      replace HR := Lib.hid HR
      go_wp2
      go_ret
      exact RetN.own HO.out hU hb HR.out rfl
    · have hgt : decide ((0 : Int) < (m : Int)) = true := by simp; omega
      have hs : limbs m = ((m % 65536 : Nat) : Int) :: limbs (m / 65536) := limbs_pos h0
      have hr2 : limbs n = (l ++ [((m % 65536 : Nat) : Int)]) ++ limbs (m / 65536) := by rw [hr.out, hs]; simp
      have HR := Lib.hid hr2
      clear hs hr2
      have hlt : m < 18446744073709551616 := by omega
      have hm1 : ((m : Int) % 65536) = ((m % 65536 : Nat) : Int) := by omega
      have hm2 : ((m : Int) / 65536) = ((m / 65536 : Nat) : Int) := by omega
      have hw := wrap16 m
      have HM1 := Lib.hid hm1
      have HM2 := Lib.hid hm2
      clear hm1 hm2
      go_wp2_with (at_builtin; go_must (refine append_nat rfl (.tmp 8) (.tmp 11) rfl a c rfl (HO.out.alloc _) ((m % 65536 : Nat) : Int) wr.heap.size 1 rfl (by simp <;> omega) (l ++ [((m % 65536 : Nat) : Int)]) rfl (by simp; omega) (by have := hb.size; simp; omega) ?_); intro a2 c2 w2 ho2 hg2 hx2)
      go_roundw
      case rel =>
        have hb1 : Below w.heap.size w w2 := below_append' (hb.alloc hb.size _) (HO.out.alloc _) hg2
        have hl4 : (l ++ [((m % 65536 : Nat) : Int)]).length ≤ 1000 := by
          have h4 : (limbs n).length ≤ 4 := limbs_len_le (by simpa using hn)
          rw [HR.out] at h4
          simp only [List.length_append] at h4 ⊢
          omega
        exact ⟨m / 65536, l ++ [((m % 65536 : Nat) : Int)], a2, c2, by omega, by rw [HM2.out], by simp, ho2, hU.app (U16.cons (by omega) U16.nil), hl4, hb1, HR.out⟩
      case measure => rw [HM2.out]; simp [intOf]; omega

set_option maxHeartbeats 1000000 in
theorem uint_small (l : List Int) (n : Nat) (a : Option Addr) (c : Nat) (w : World) (h : NatR w a c l) (hn : val l = n) (hs : n < 18446744073709551616) :
    Calls Try.prog 110 #[.slice a l.length c] w fun e w' => e = .returned (.tuple #[.int .u64 n, .bool true]) ∧ w = w' := by
  have CT := trim_any l a c w h
  have hT := h.trim
  have hu := limbs_u16 (val l)
  rw [hn] at CT hT hu
  have hlen : (limbs n).length ≤ 4 := small_iff.2 hs
  have hvT := val_limbs n
  revert CT hT hlen hu hvT
  generalize limbs n = T
  intro CT hT hu hlen hvT
  replace CT := Lib.hid CT
  have HT := Lib.hid hT
  have HV := Lib.hid hvT
  clear h hn hT hvT
  go_enter Try.func110, Try.ntmps110
  go_wp2_with fail
  refine CT.out.mono ?_
  rintro e w1 ⟨rfl, rfl⟩
  go_wp2
  obtain ⟨wo, rfl⟩ : ∃ wo : World, wo = w := ⟨_, rfl⟩
  go_loopg [4, 5, 6, 14] T.length (fun g x _ _ i wr => ∃ k : Nat, k + g = T.length ∧ i = .int .i64 k ∧ wo = wr ∧ x = .int .u64 (val (T.take k) : Nat))
  case atStart => exact ⟨0, by omega, rfl, rfl, by simp [val]⟩
  case round =>
    obtain ⟨k, hkg, rfl, rfl, rfl⟩ := hrel
    have HKG := Lib.hid hkg
    clear hkg
    by_cases hlt : k < T.length
    · obtain ⟨x, hx⟩ := get_of_lt hlt
      obtain ⟨b, off, rfl, hc⟩ := HT.out.cell hx
      obtain ⟨hx0, hx1⟩ := hu.get hx
      obtain ⟨y, rfl⟩ : ∃ y : Nat, x = (y : Int) := ⟨x.toNat, by omega⟩
      have hvt := val_take hx
      have hlt2 : val (T.take k) < 65536 ^ k := by
        have := val_lt (hu.take k)
        have e : (T.take k).length = k := by simp; omega
        rwa [e] at this
      rw [Int.toNat_natCast] at hvt
      have hor := uint_or (x := y) hlt2
      rw [← hvt] at hor
      have hkc : k = 0 ∨ k = 1 ∨ k = 2 ∨ k = 3 := by omega
      have HOR := Lib.hid hor
      revert hlt2
      generalize val (T.take k) = p at *
      intro hlt2
      clear hvt hor hx
      rcases hkc with rfl | rfl | rfl | rfl
      · rw [Nat.add_zero] at hc
        go_wp2
        go_roundg (gk - 1)
        case rel => exact ⟨1, by have := HKG.out; omega, by go_num, rfl, val_int (uint_bits (z := y) (y := y) 1 (by simpa using hlt2) (by omega) (by omega) (by have h := HOR.out; rw [Nat.pow_zero] at h; exact h) (by simp))⟩
        case measure => have := HKG.out; omega
      · go_wp2
        go_roundg (gk - 1)
        case rel => exact ⟨2, by have := HKG.out; omega, by go_num, rfl, val_int (uint_bits (z := y * 65536) 65536 (by simpa using hlt2) (by omega) (by omega) HOR.out (by simp))⟩
        case measure => have := HKG.out; omega
      · go_wp2
        go_roundg (gk - 1)
        case rel => exact ⟨3, by have := HKG.out; omega, by go_num, rfl, val_int (uint_bits (z := y * 4294967296) 4294967296 (by simpa using hlt2) (by omega) (by omega) HOR.out (by simp))⟩
        case measure => have := HKG.out; omega
      · go_wp2
        go_roundg (gk - 1)
        case rel => exact ⟨4, by have := HKG.out; omega, by go_num, rfl, val_int (uint_bits (z := y * 281474976710656) 281474976710656 (by simpa using hlt2) (by omega) (by omega) HOR.out (by simp))⟩
        case measure => have := HKG.out; omega
    · have hr : val (T.take k) = n := by rw [take_all hlt]; exact HV.out
      have HR := Lib.hid hr
      clear hr
      go_wp2
      go_ret2
      refine ⟨?_, rfl⟩
      rw [HR.out]
      rfl
set_option maxHeartbeats 1000000 in
theorem uint_big (l : List Int) (n : Nat) (a : Option Addr) (c : Nat) (w : World) (h : NatR w a c l) (hn : val l = n) (hs : ¬ n < 18446744073709551616) :
    Calls Try.prog 110 #[.slice a l.length c] w fun e w' => e = .returned (.tuple #[.int .u64 0, .bool false]) ∧ w = w' := by
  have CT := trim_any l a c w h
  rw [hn] at CT
  have hlen : ¬ (limbs n).length ≤ 4 := fun e => hs (small_iff.1 e)
  have hmx := h.len
  have hle := limbs_len_val h.u16
  rw [hn] at hle
  revert CT hlen hle
  generalize limbs n = T
  intro CT hlen hle
  replace CT := Lib.hid CT
  clear h hn hs
  go_enter Try.func110, Try.ntmps110
  go_wp2_with fail
  refine CT.out.mono ?_
  rintro e w1 ⟨rfl, rfl⟩
  go_wp2
  go_ret2
  exact ⟨rfl, rfl⟩
end Go.Proofs.Ytfahnnkppakiiaa

/- Walks: the program's natural numbers: Cmp, byLimb. -/
namespace Go.Proofs.Ytfahnnkppakiiaa
open Go.RowKit

set_option maxRecDepth 100000 in
set_option maxHeartbeats 2000000 in
theorem cmp_any (l m : List Int) (n1 n2 : Nat) (a a' : Option Addr) (c c' : Nat) (w : World) (h : NatR w a c l) (h' : NatR w a' c' m) (hn : val l = n1) (hk : val m = n2) :
    Calls Try.prog 116 #[.slice a l.length c, .slice a' m.length c'] w fun e w' => e = .returned (.int .i64 (cmpN n1 n2)) ∧ Below w.heap.size w w' := by
  have C1 := trim_any l a c w h
  have C2 := trim_any m a' c' w h'
  have hT := h.trim
  have hT' := h'.trim
  rw [hn] at C1 hT
  rw [hk] at C2 hT'
  have hu1 := limbs_u16 n1
  have hu2 := limbs_u16 n2
  have hv1 := val_limbs n1
  have hv2 := val_limbs n2
  have hm1 := fun (e : n1 ≤ n2) => limbs_len_mono e
  have hm2 := fun (e : n2 ≤ n1) => limbs_len_mono e
  have hlen1 := hT.len
  have hlen2 := hT'.len
  revert C1 C2 hT hT' hu1 hu2 hv1 hv2 hm1 hm2 hlen1 hlen2
  generalize limbs n1 = T
  generalize limbs n2 = U
  intro C1 C2 hT hT' hu1 hu2 hv1 hv2 hm1 hm2 hlen1 hlen2
  replace C1 := Lib.hid C1
  replace C2 := Lib.hid C2
  have HT := Lib.hid hT
  have HU := Lib.hid hT'
  have HV1 := Lib.hid hv1
  have HV2 := Lib.hid hv2
  obtain ⟨R, hR⟩ : ∃ q, cmpN n1 n2 = q := ⟨_, rfl⟩
  rw [hR]
  have HR := Lib.hid hR
  clear h h' hn hk hT hT' hv1 hv2 hR
  by_cases hlt : T.length < U.length
  · have hr : R = -1 := by
      rw [← HR.out]
      unfold cmpN
      rw [if_pos (by apply Nat.lt_of_not_le; intro e; have := hm2 e; omega)]
    subst hr
    clear hm1 hm2
    have hne : ((T.length : Int) != (U.length : Int)) = true := by simp; omega
    go_enter Try.func116, Try.ntmps116
    go_wp2_with fail
    refine C1.out.mono ?_
    rintro e w1 ⟨rfl, rfl⟩
    go_wp2_with fail
    refine C2.out.mono ?_
    rintro e w1 ⟨rfl, rfl⟩
    go_wp2
    go_ret
    exact ⟨rfl, Below.refl _ _⟩
  · by_cases hgt : U.length < T.length
    · have hr : R = 1 := by
        have h1 : n2 < n1 := by apply Nat.lt_of_not_le; intro e; have := hm1 e; omega
        rw [← HR.out]
        unfold cmpN
        rw [if_neg (by omega), if_pos h1]
      subst hr
      clear hm1 hm2
      have hne : ((T.length : Int) != (U.length : Int)) = true := by simp; omega
      go_enter Try.func116, Try.ntmps116
      go_wp2_with fail
      refine C1.out.mono ?_
      rintro e w1 ⟨rfl, rfl⟩
      go_wp2_with fail
      refine C2.out.mono ?_
      rintro e w1 ⟨rfl, rfl⟩
      go_wp2
      go_ret
      exact ⟨rfl, Below.refl _ _⟩
    · have he : T.length = U.length := by omega
      have hne : ((T.length : Int) != (U.length : Int)) = false := by simp; omega
      have HE := Lib.hid he
      clear hm1 hm2 hlt hgt he
      go_enter Try.func116, Try.ntmps116
      go_wp2_with fail
      refine C1.out.mono ?_
      rintro e w1 ⟨rfl, rfl⟩
      go_wp2_with fail
      refine C2.out.mono ?_
      rintro e w1 ⟨rfl, rfl⟩
      go_wp2
      clear hne
      obtain ⟨wo, rfl⟩ : ∃ wo : World, wo = w := ⟨_, rfl⟩
      go_loopg [5] T.length (fun g i wr => g ≤ T.length ∧ i = .int .i64 ((g : Int) - 1) ∧ Below wo.heap.size wo wr ∧ Hid (val (T.drop g) = val (U.drop g)))
      case atStart => exact ⟨Nat.le_refl _, rfl, Below.refl _ _, by show _ = _; rw [val_drop_all (Nat.le_refl _), val_drop_all (by have := HE.out; omega)]⟩
      case round =>
        obtain ⟨hg, rfl, hwr, hv⟩ := hrel
        by_cases h0 : gk = 0
        · subst h0
          have hr : R = 0 := by
            have h1 := hv.out
            rw [List.drop_zero, List.drop_zero, HV1.out, HV2.out] at h1
            rw [← HR.out]
            exact cmpN_zero.2 h1
          subst hr
          go_wp2
          go_ret
          exact ⟨rfl, hwr⟩
        · obtain ⟨k, rfl⟩ : ∃ k, gk = k + 1 := ⟨gk - 1, by omega⟩
          obtain ⟨x, hx⟩ := get_of_lt (xs := T) (k := k) (by omega)
          obtain ⟨y, hy⟩ := get_of_lt (xs := U) (k := k) (by have := HE.out; omega)
          obtain ⟨b, off, rfl, hc⟩ := (HT.out.ext (Ext.below hwr)).cell hx
          obtain ⟨b2, off2, rfl, hc2⟩ := (HU.out.ext (Ext.below hwr)).cell hy
          have hkl : k < T.length := by omega
          have hkl2 : k < U.length := by have := HE.out; omega
          have e1 : (((k + 1 : Nat) : Int) - 1) = (k : Int) := by omega
          rw [e1]
          have HX := Lib.hid hx
          have HY := Lib.hid hy
          have hx2 := limbAt_some hx
          have hy2 := limbAt_some hy
          have HX2 := Lib.hid hx2
          have HY2 := Lib.hid hy2
          clear hx hy hx2 hy2 e1
          by_cases hlt : x < y
          · have hr : R = -1 := by
              have h1 := val_lt_of hu1 hu2 k hv.out (by rw [HX2.out, HY2.out]; exact hlt)
              rw [HV1.out, HV2.out] at h1
              rw [← HR.out]
              unfold cmpN
              rw [if_pos h1]
            subst hr
            have hd := decide_eq_true hlt
            go_wp2
            go_region
            go_wp2
            go_ret
            exact ⟨rfl, by go_grown⟩
          · by_cases hgt : y < x
            · have hr : R = 1 := by
                have h1 := val_lt_of hu2 hu1 k hv.out.symm (by rw [HX2.out, HY2.out]; exact hgt)
                rw [HV1.out, HV2.out] at h1
                rw [← HR.out]
                unfold cmpN
                rw [if_neg (by omega), if_pos h1]
              subst hr
              go_wp2
              go_region
              go_wp2
              go_region
              go_wp2
              go_ret
              exact ⟨rfl, by go_grown⟩
            · have hxy : x = y := by omega
              have hv2 : val (T.drop k) = val (U.drop k) := by
                rw [val_drop HX.out, val_drop HY.out, hv.out, hxy]
              have HV := Lib.hid hv2
              clear hxy hv2
              go_wp2
              go_region
              go_wp2
              go_region
              go_wp2
              go_roundg k
              case rel => exact ⟨by omega, rfl, by go_grown, HV.out⟩
              case measure => omega

theorem byLimb_or {r x : Nat} (hx : x < 65536) : r * 65536 ||| x = r * 65536 + x := by
  have : (65536 : Nat) = 2 ^ 16 := rfl
  rw [Nat.mul_comm, this] at *
  rw [← Nat.two_pow_add_eq_or_of_lt hx]
set_option maxRecDepth 100000 in
set_option maxHeartbeats 2000000 in
/-- division by one limb -/
theorem byLimb_any (l : List Int) (n d : Nat) (a : Option Addr) (c : Nat) (w : World) (h : NatR w a c l) (hn : val l = n) (hl : l.length ≤ 16777216) (hd : 0 < d) (hd2 : d ≤ 65535) :
    Calls Try.prog 117 #[.slice a l.length c, .int .u16 d] w fun e w' => ∃ a1 c1, e = .returned (.tuple #[.slice a1 (limbs (n / d)).length c1, .int .u16 ((n % d : Nat) : Int)]) ∧
      (∀ V, New w.heap.size w' V → NatR V a1 c1 (limbs (n / d))) ∧ Below w.heap.size w w' := by
  have H := Lib.hid h
  have HN := Lib.hid hn
  have hmk := run_make_nat .i64 l.length hl w
  have hu := h.u16
  clear h hn
  go_enter Try.func117, Try.ntmps117
  go_wp2
  clear hmk
  have hz := BlkN.new w l.length
  have hb0 : Below w.heap.size w (w.alloc (.cells (madeCells #[.int .u16 0] l.length) 80)) := (Below.refl _ _).alloc (Nat.le_refl _) _
  revert hz hb0
  generalize w.alloc (.cells (madeCells #[.int .u16 0] l.length) 80) = w0
  intro hz hb0
  go_loopg [7, 8] l.length (fun g r i wr => ∃ (rv : Nat) (Q : List Int), g ≤ l.length ∧ i = .int .i64 ((g : Int) - 1) ∧ r = .int .u32 rv ∧ rv < d ∧ BlkN wr w.heap.size Q ∧ Hid (Q.length = l.length) ∧ U16 Q ∧ Below w.heap.size w wr ∧ Hid (val (l.drop g) = val (Q.drop g) * d + rv))
  case atStart => exact ⟨0, List.replicate l.length 0, Nat.le_refl _, rfl, rfl, hd, hz, by show _ = _; simp, u16_replicate _, hb0, by show _ = _; rw [val_drop_all (Nat.le_refl _), val_drop_all (by simp)]; simp⟩
  case round =>
    clear hz hb0
    obtain ⟨rv, Q, hg, rfl, rfl, hrv, hQ, hQl, hQu, hwr, hv⟩ := hrel
    have HQ := Lib.hid hQ
    by_cases h0 : gk = 0
    · subst h0
      have hfin : val Q = n / d ∧ rv = n % d := by
        have := hv.out
        rw [List.drop_zero, List.drop_zero, HN.out] at this
        have h1 : n / d = val Q := by rw [this, Nat.mul_comm, Nat.mul_add_div (by omega), Nat.div_eq_of_lt hrv, Nat.add_zero]
        have h2 : n % d = rv := by rw [this, Nat.mul_comm, Nat.mul_add_mod, Nat.mod_eq_of_lt hrv]
        exact ⟨h1.symm, h2.symm⟩
      have hcap : Q.length ≤ maxLen := by rw [hQl.out]; unfold maxLen; omega
      have hread : NatR wr (some ⟨w.heap.size, 0, none⟩) Q.length Q := hQ.readsV (Nat.le_refl _) (New.refl _ _) hQu (Nat.le_refl _) hcap
      have hread2 : ∀ V, New w.heap.size wr V → NatR V (some ⟨w.heap.size, 0, none⟩) Q.length (limbs (n / d)) := fun V hV => by
        rw [← hfin.1]
        exact (hQ.readsV (Nat.le_refl _) hV hQu (Nat.le_refl _) hcap).trim
      have CT := trim_any Q _ _ wr hread
      rw [hfin.1, hQl.out] at CT
      rw [hQl.out] at hread2
      replace CT := Lib.hid CT
      have HRD := Lib.hid hread2
      have HRV := Lib.hid hfin.2
      clear hread hread2 hfin hQ
      go_wp2_with fail
      refine CT.out.mono ?_
      rintro e w1 ⟨rfl, rfl⟩
      go_wp2
      go_ret2
      exact ⟨_, _, by rw [HRV.out]; rfl, HRD.out, hwr⟩
    · obtain ⟨k, rfl⟩ : ∃ k, gk = k + 1 := ⟨gk - 1, by omega⟩
      obtain ⟨x, hx⟩ := get_of_lt (xs := l) (k := k) (by omega)
      obtain ⟨b, off, rfl, hc⟩ := (H.out.ext (Ext.below hwr)).cell hx
      obtain ⟨hx0, hx1⟩ := hu.get hx
      obtain ⟨y, rfl⟩ : ∃ y : Nat, x = (y : Int) := ⟨x.toNat, by omega⟩
      have hkl : k < l.length := by omega
      have hkq : k < Q.length := by rw [hQl.out]; omega
      obtain ⟨N, hN⟩ : ∃ N, N = y + 65536 * rv := ⟨_, rfl⟩
      have hor : bits .or .u32 ((rv : Int) * 65536) (y : Int) = (N : Int) := by
        have h1 := byLimb_or (r := rv) (x := y) (by omega)
        have h2 := u32_or_nat (rv * 65536) y (by omega) (by omega)
        rw [h1] at h2
        simp only [Int.natCast_mul] at h2
        rw [hN, show y + 65536 * rv = rv * 65536 + y by omega]
        exact h2
      have hN2 : N < 4294967296 := by omega
      have hqd : N / d ≤ 65535 := by rw [hN]; exact div_digit (by omega) hrv
      have hrm : N % d < d := Nat.mod_lt _ hd
      have hqm : N = N / d * d + N % d := by rw [Nat.mul_comm]; exact (Nat.div_add_mod N d).symm
      have hdiv : (N : Int).tdiv (d : Int) = ((N / d : Nat) : Int) := rfl
      have hmod : (N : Int).tmod (d : Int) = ((N % d : Nat) : Int) := rfl
      have hvd := div_step l (Q.drop (k + 1)) k d rv (N / d) (N % d) (y : Int) hx hv.out (by rw [Int.toNat_natCast, ← hN]; exact hqm)
      have hdrop : ∀ z : Int, (Q.set k z).drop k = z :: Q.drop (k + 1) := fun z => by
        rw [List.drop_eq_getElem_cons (by simpa using hkq), List.getElem_set_self, List.drop_set_of_lt (by omega)]
      rw [← hdrop] at hvd
      have hcell : ∃ u, wr.cell? ⟨w.heap.size, k, none⟩ = some u := by
        obtain ⟨z, hz⟩ := get_of_lt hkq
        exact ⟨_, HQ.out.cell hz⟩
      obtain ⟨u, hcell⟩ := hcell
      have hfr := HQ.out.frozen k
      have hw16 : IntKind.u16.wrap ((N / d : Nat) : Int) = ((N / d : Nat) : Int) := by
        rw [wrap16]
        congr 1
        exact Nat.mod_eq_of_lt (by omega)
      have hd0 : ((d : Int) == 0) = false := by simp; omega
      have hd1 : (d : Int) ≠ 0 := by omega
      have e1 : (((k + 1 : Nat) : Int) - 1) = (k : Int) := by omega
      rw [e1]
      have HVD := Lib.hid hvd
      revert hqd hrm hdiv hmod hw16 HVD
      generalize N / d = dq
      generalize N % d = dr
      intro hqd hrm hdiv hmod hw16 HVD
      clear hx hN hqm hvd hdrop hQ hv
      go_wp2
      go_roundg k
      case rel => exact ⟨dr, Q.set k (dq : Int), by omega, rfl, rfl, hrm, HQ.out.set_ k _, by show _ = _; rw [List.length_set]; exact hQl.out, hQu.set_ ⟨by omega, by omega⟩, hwr.setCell (Nat.le_refl _) _, HVD.out⟩
      case measure => omega
end Go.Proofs.Ytfahnnkppakiiaa

/- The digit of a long division that is guessed from the first limbs. No function of the program in sight. -/
namespace Go.Proofs.Ytfahnnkppakiiaa

/-- from the first two limbs v1, v0 of the divisor V and the first three of U: the greatest digit below 65536 whose product with them does not exceed is the quotient or one more -/
theorem guess_ge {U V B u2 v2 q d : Nat} (hB : 0 < B) (hu : U < (u2 + 1) * B) (hv : v2 * B ≤ V) (hq : q * V ≤ U) (hq2 : q ≤ 65535) (hd : d = 65535 ∨ u2 < (d + 1) * v2) : q ≤ d := by
  rcases hd with rfl | hd
  · exact hq2
  · have h1 : q * (v2 * B) ≤ q * V := Nat.mul_le_mul_left _ hv
    have h2 : q * v2 * B < (u2 + 1) * B := by rw [Nat.mul_assoc]; omega
    have h3 : q * v2 < u2 + 1 := Nat.lt_of_mul_lt_mul_right h2
    by_cases hle : q ≤ d
    · exact hle
    · have h4 : (d + 1) * v2 ≤ q * v2 := Nat.mul_le_mul_right _ (by omega)
      omega
theorem guess_le {U V B u2 v2 q d : Nat} (hB : 0 < B) (hu : u2 * B ≤ U) (hv : V < (v2 + 1) * B) (hq : U < (q + 1) * V) (hd : d * v2 ≤ u2) (hd2 : d ≤ 65535) (hv2 : 65536 ≤ v2) : d ≤ q + 1 := by
  by_cases hle : d ≤ q + 1
  · exact hle
  · exfalso
    have h1 : (q + 1) * V ≤ (d - 1) * V := Nat.mul_le_mul_right _ (by omega)
    have h2 : (d - 1) * V ≤ (d - 1) * ((v2 + 1) * B) := Nat.mul_le_mul_left _ (by omega)
    have h3 : u2 * B < (d - 1) * (v2 + 1) * B := by rw [Nat.mul_assoc]; omega
    have h4 : u2 < (d - 1) * (v2 + 1) := Nat.lt_of_mul_lt_mul_right h3
    obtain ⟨e, rfl⟩ : ∃ e, d = e + 1 := ⟨d - 1, by omega⟩
    have h5 : e + 1 - 1 = e := by omega
    rw [h5, Nat.mul_add, Nat.mul_one] at h4
    rw [Nat.add_mul, Nat.one_mul] at hd
    omega
end Go.Proofs.Ytfahnnkppakiiaa
