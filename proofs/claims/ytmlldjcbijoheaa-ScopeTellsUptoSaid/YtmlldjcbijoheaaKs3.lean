/- Walks of the reference's natural numbers: Valid, Same, Sub, Mul. -/
import Derived.Test.YtmlldjcbijoheaaKs2
import Derived.Test.YtmlldjcbijoheaaKs1
import Derived.Deep.OwnRows
import Derived.Deep.DeepCutAuto

/- Words for slices of limbs: made by append, made whole and written, handed back. -/
namespace Go.Proofs.Ytmlldjcbijoheaa
open Go.RowKit

def natC (x : Int) : List Value := [.int .u16 x]
theorem natC_len (s : Int) : (natC s).length = 1 := rfl
theorem natC_one (s : Int) : ∀ u ∈ natC s, u.oneCell' = true := by simp [natC, Value.oneCell']
theorem natC_cell {w : World} {b : Nat} {s : Int} (h : w.cell? ⟨b, 0, none⟩ = some (.int .u16 s)) : ∀ j u, (natC s)[j]? = some u → w.cell? ⟨b, j, none⟩ = some u := by
  intro j u hu
  match j, hu with
  | 0, hu => simp [natC] at hu; subst hu; exact h
theorem natC_map (l : List Int) : l.flatMap natC = l.map (Value.int .u16) := by
  induction l with
  | nil => rfl
  | cons x l ih => rw [List.flatMap_cons, ih]; rfl
/-- the call owns a slice of limbs -/
abbrev OwnN (B : Nat) (w : World) (a : Option Addr) (c : Nat) (l : List Int) : Prop := Own natC 1 130 B w a c l
theorem infoN : (Try.prog.info? 130).map (fun i => (i.zero, i.size, i.bytes)) = some (some (.int .u16 0), 1, 2) := by kernel_rfl

theorem NatR.u16 {w : World} {a : Option Addr} {c : Nat} {l : List Int} (h : NatR w a c l) : U16 l := fun x hx => by
  obtain ⟨k, hk⟩ := List.mem_iff_getElem?.1 hx
  obtain ⟨b, off, _, he⟩ := h.2.2 k x hk
  exact u16_of he.2
theorem NatR.take {w : World} {a : Option Addr} {c : Nat} {l : List Int} (h : NatR w a c l) (k : Nat) : NatR w a c (l.take k) := by
  refine ⟨by have := h.1; simp; omega, h.2.1, fun j x hx => ?_⟩
  rw [List.getElem?_take] at hx
  split at hx
  · exact h.2.2 j x hx
  · cases hx
theorem NatR.zero {w : World} {a : Option Addr} {c : Nat} {l : List Int} (h : NatR w a c l) : NatR w a c [] := by have := h.take 0; simpa using this
theorem NatR.cell {w : World} {a : Option Addr} {c : Nat} {l : List Int} (h : NatR w a c l) {k : Nat} {x : Int} (hx : l[k]? = some x) : ∃ b off, a = some ⟨b, off, none⟩ ∧ w.cell? ⟨b, off + k, none⟩ = some (.int .u16 x) := by
  obtain ⟨b, off, e, hc⟩ := h.2.2 k x hx
  exact ⟨b, off, e, by simpa using hc.1⟩

theorem OwnN.reads1 {B : Nat} {w : World} {a : Option Addr} {c : Nat} {l : List Int} (h : OwnN B w a c l) (hs : U16 l) : NatR w a c l :=
  Own.reads natC_len h fun g o x hx hc => ⟨by simpa using hc 0 _ rfl, u16_wf (hs x hx)⟩
theorem OwnN.readsV {B : Nat} {w V : World} {a : Option Addr} {c : Nat} {l : List Int} (h : OwnN B w a c l) (hV : New B w V) (hs : U16 l) : NatR V a c l := by
  have := Own.readsIn (E := IntE .u16) (β := Int) id natC_len h hV (fun b o x hx hc => ⟨by simpa using hc 0 _ rfl, u16_wf (hs x hx)⟩)
  rwa [List.map_id] at this

/-- 'l = append(l, x)' of one limb -/
theorem append_nat {B : Nat} {w : World} {l : List Int} {ops : Array Oper} {rest : List Oper} {o : Oper} {act : Act} {Q : Exit → Act → World → Prop} (hgd : o.guard = none) (s y : Operand)
    (ho : o.op = .call { callee := .builtin .append, args := #[s, y], argTypes := #[33, 33] })
    (a : Option Addr) (c : Nat) (hs : act.eval s = .slice a l.length c) (hown : OwnN B w a c l)
    (x : Int) (b c1 : Nat) (hy : act.eval y = .slice (some ⟨b, 0, none⟩) 1 c1) (hcell : w.cell? ⟨b, 0, none⟩ = some (.int .u16 x))
    (l2 : List Int) (hl2 : l2 = l ++ [x]) (hlen : l2.length ≤ 16777216) (hB : B ≤ w.heap.size)
    (h : ∀ a' c' w', OwnN B w' a' c' l2 → w.grownBy w' (Value.ownBlock (.slice a l.length c)) → ((∃ g, a' = some ⟨g, 0, none⟩ ∧ (a = some ⟨g, 0, none⟩ ∨ g = w.heap.size))) →
      wpList Try.prog ops Q rest (act.put o.dst (.slice a' l2.length c')) w') : wpList Try.prog ops Q (o :: rest) act w :=
  wpList_append_1 hgd s y 33 ho Try.underlying33 infoN rfl (by omega) (by omega) natC_len a c hs hown x (natC_one x) b c1 hy (natC_cell hcell) l2 hl2 hlen hB h

section
variable {α : Type} {f : α → List Value} {sz : Nat} {t : TypeId} {B : Nat} {w : World} {l m : List α} {P : Program}
theorem run_append_of_nil (ts ty e : TypeId) (i : TypeInfo) (ht : P.underlying ts = some (.slice e)) (hi : P.info? e = some i)
    (v : Value) (n : Nat) (xs : List Value) (size : Nat) (hown : w.ownsRow B e size v n xs) (c : Nat) : (Builtin.append_ #[ts, ts] ty #[v, .slice none 0 c]).run P w = .ok v w := by
  rcases hown.2 with ⟨rfl, rfl⟩ | ⟨g, cap, cur, rfl, _, _, hnc, _⟩
  · simp [Builtin.append_, run_underlying ht, sizeOf, typeInfo, hi, Builtin.lenOf, Builtin.firstCells]
  · simp [Builtin.append_, run_underlying ht, sizeOf, typeInfo, hi, Builtin.lenOf, Builtin.firstCells, hnc, storeCells]
/-- 'l = append(l, m...)', m read from anywhere -/
theorem wp_append_m {o : Oper} {act : Act} {K : Act → World → Prop} {Q : Exit → Act → World → Prop} (s y : Operand) (ts : TypeId)
    (ho : o.op = .call { callee := .builtin .append, args := #[s, y], argTypes := #[ts, ts] })
    {z : Value} {bytes : Nat} (ht : P.underlying ts = some (.slice t)) (hi : (P.info? t).map (fun i => (i.zero, i.size, i.bytes)) = some (some z, sz, bytes)) (hz : z.cells.size = sz) (hsz : 0 < sz) (hby : bytes ≤ 1024)
    (hf : ∀ x, (f x).length = sz) (a : Option Addr) (c : Nat) (hs : act.eval s = .slice a l.length c) (hown : Own f sz t B w a c l)
    (hone : ∀ x ∈ m, ∀ u ∈ f x, u.oneCell' = true) (am : Option Addr) (cm : Nat) (hy : act.eval y = .slice am m.length cm)
    (hcell : ∀ k x, m[k]? = some x → ∃ b off, am = some ⟨b, off, none⟩ ∧ ∀ j u, (f x)[j]? = some u → w.cell? ⟨b, off + (k * sz + j), none⟩ = some u)
    (l2 : List α) (hl2 : l2 = l ++ m) (hlen : l2.length ≤ 16777216) (hB : B ≤ w.heap.size)
    (h : ∀ a' c' w', Own f sz t B w' a' c' l2 → w.grownBy w' (Value.ownBlock (.slice a l.length c)) → Below B w w' →
      K (act.put o.dst (.slice a' l2.length c')) w') : o.wp P act w K Q := by
  subst hl2
  obtain ⟨i, hi0, hz0, hz1, hz2⟩ := info_parts hi
  simp only [List.length_append] at hlen
  have hf2 : (l ++ m).flatMap f = l.flatMap f ++ m.flatMap f := by simp
  have key : ∃ v' w', (Builtin.append_ #[ts, ts] o.type #[.slice a l.length c, .slice am m.length cm]).run P w = .ok v' w' ∧ w'.ownsRow B t sz v' (l.length + m.length) (l.flatMap f ++ m.flatMap f) ∧ w.grownBy w' (Value.ownBlock (.slice a l.length c)) := by
    cases am with
    | none =>
      have hm : m = [] := by
        cases m with
        | nil => rfl
        | cons x m => obtain ⟨b, off, e, _⟩ := hcell 0 x rfl; cases e
      subst hm
      exact ⟨_, w, run_append_of_nil ts o.type t i ht hi0 _ _ _ sz hown cm, by have := hown; unfold Own at this; simpa using this, World.grownBy.refl w _⟩
    | some ad =>
      obtain ⟨v', w', hr, h2, h3, _, _⟩ := run_append_own_at (P := P) w B ts o.type t i z sz bytes ht hi0 hz0 hz1 hz2 hz hsz (.slice a l.length c) l.length (l.flatMap f) hown ad m.length cm (m.flatMap f) (flatMap_len hf m)
        (fun j u hu => by
          have hj : j < m.length * sz := by rw [← flatMap_len hf m]; exact lt_of_get hu
          have hk : j / sz < m.length := (Nat.div_lt_iff_lt_mul hsz).2 hj
          obtain ⟨x, hx⟩ := get_of_lt hk
          obtain ⟨b, off, e, hc⟩ := hcell _ x hx
          injection e with e
          subst e
          have hd : j = j / sz * sz + j % sz := by have := Nat.div_add_mod j sz; rw [Nat.mul_comm] at this; omega
          have h1 := flatMap_at hf m (j / sz) x (j % sz) hx (Nat.mod_lt _ hsz)
          rw [← hd, hu] at h1
          have := hc _ _ h1.symm
          rw [Addr.add_lit, hd]
          exact this) (fun u hu => by
          obtain ⟨x, hx, hux⟩ := List.mem_flatMap.1 hu
          exact hone x hx u hux) (by unfold maxLen; omega)
        (by have : (l.length + m.length) * bytes ≤ 16777216 * 1024 := Nat.mul_le_mul hlen hby
            omega) hB
      exact ⟨v', w', hr, h2, h3⟩
  obtain ⟨v', w', hr, h2, h3⟩ := key
  have hbel : Below B w w' := (Below.refl _ _).grown h3 hB (fun k hk => by
    cases a with
    | none => simp [Value.ownBlock] at hk
    | some g => simp [Value.ownBlock] at hk; subst hk; exact (hown.lt rfl).1)
  unfold Oper.wp execOp
  simp only [ho, resolve, invoke, builtin, Sem.run_bind, Sem.run_pure, Result.andThen_ok, List.map_toArray, List.map_cons, List.map_nil, hs, hy, hr]
  have hn : (l ++ m).length = l.length + m.length := by simp
  rcases h2.2 with ⟨e, e0⟩ | ⟨g, cap, cur, e, _⟩
  · have hn0 : (l ++ m).length = 0 := by rw [hn, e0]
    subst e
    have := h none 0 w' (by unfold Own; rw [hf2, hn0]; rw [e0] at h2; exact h2) h3 hbel
    rw [hn0] at this
    exact this
  · subst e
    have := h (some ⟨g, 0, none⟩) cap w' (by unfold Own; rw [hf2, hn]; exact h2) h3 hbel
    rw [hn] at this
    exact this
end

/-- 'l = append(l, m...)' of limbs -/
theorem append_nats {B : Nat} {w : World} {l m : List Int} {ops : Array Oper} {rest : List Oper} {o : Oper} {act : Act} {Q : Exit → Act → World → Prop} (hgd : o.guard = none) (s y : Operand)
    (ho : o.op = .call { callee := .builtin .append, args := #[s, y], argTypes := #[33, 33] })
    (a : Option Addr) (c : Nat) (hs : act.eval s = .slice a l.length c) (hown : OwnN B w a c l)
    (am : Option Addr) (cm : Nat) (hy : act.eval y = .slice am m.length cm) (hr : NatR w am cm m)
    (l2 : List Int) (hl2 : l2 = l ++ m) (hlen : l2.length ≤ 16777216) (hB : B ≤ w.heap.size)
    (h : ∀ a' c' w', OwnN B w' a' c' l2 → w.grownBy w' (Value.ownBlock (.slice a l.length c)) → Below B w w' →
      wpList Try.prog ops Q rest (act.put o.dst (.slice a' l2.length c')) w') : wpList Try.prog ops Q (o :: rest) act w :=
  wpList_plain hgd fun _ hK => wp_append_m s y 33 ho Try.underlying33 infoN rfl (by omega) (by omega) natC_len a c hs hown (fun x _ => natC_one x) am cm hy
    (fun k x hx => by
      obtain ⟨b, off, e, hc⟩ := hr.cell hx
      refine ⟨b, off, e, fun j u hu => ?_⟩
      match j, hu with
      | 0, hu => simp [natC] at hu; subst hu; simpa using hc) l2 hl2 hlen hB fun a' c' w' h1 h2 h3 => hK _ _ (h a' c' w' h1 h2 h3)

/-- block g is a row of just these limbs -/
def BlkN (w : World) (g : Nat) (l : List Int) : Prop := Blk w g 130 (l.map (Value.int .u16)).toArray
section
variable {w w' : World} {g : Nat} {l : List Int}
theorem BlkN.lt (h : BlkN w g l) : g < w.heap.size := Blk.lt h
theorem BlkN.cell (h : BlkN w g l) {i : Nat} {x : Int} (hx : l[i]? = some x) : w.cell? ⟨g, i, none⟩ = some (.int .u16 x) := by
  rw [Blk.cell h i]; simp [hx]
theorem BlkN.frozen (h : BlkN w g l) (i : Nat) : w.frozen? ⟨g, i, none⟩ = false := Blk.frozen h i
theorem BlkN.set_ (h : BlkN w g l) (i : Nat) (x : Int) : BlkN (w.setCell ⟨g, i, none⟩ (.int .u16 x)) g (l.set i x) := by
  have := Blk.set_ h i (.int .u16 x)
  unfold BlkN
  rw [List.setIfInBounds_toArray, ← List.map_set] at this
  exact this
theorem BlkN.below (h : BlkN w g l) (hb : Below w.heap.size w w') : BlkN w' g l := Blk.below' h hb
theorem BlkN.alloc (h : BlkN w g l) (o : Obj) : BlkN (w.alloc o) g l := Blk.alloc h o
theorem BlkN.far (h : BlkN w g l) {p : Addr} (hp : g ≠ p.block) (u : Value) : BlkN (w.setCell p u) g l := Blk.far h hp u
theorem BlkN.new (w : World) (n : Nat) : BlkN (w.alloc (.cells (madeCells #[.int .u16 0] n) 130)) w.heap.size (List.replicate n 0) := by
  have := Blk.new w 130 (madeCells #[.int .u16 0] n)
  unfold BlkN
  have e : madeCells #[.int .u16 0] n = ((List.replicate n (0 : Int)).map (Value.int .u16)).toArray := by
    apply Array.ext
    · simp [madeCells]
    · intro i h1 h2
      simp [madeCells, Nat.mod_one]
  rw [e] at this ⊢
  exact this
theorem BlkN.own (h : BlkN w g l) {B : Nat} (hB : B ≤ g) (hl : l.length ≤ maxLen) : OwnN B w (some ⟨g, 0, none⟩) l.length l := by
  refine ⟨by rw [flatMap_len natC_len], .inr ⟨g, l.length, _, rfl, hB, h, Nat.le_refl _, hl, by simp, ?_⟩⟩
  rw [natC_map]
  simp only [Nat.mul_one]
  exact List.take_of_length_le (by simp)
theorem BlkN.readsV (h : BlkN w g l) {B : Nat} {V : World} (hB : B ≤ g) (hV : New B w V) (hs : U16 l) {c : Nat} (hc : l.length ≤ c) (hm : c ≤ maxLen) : NatR V (some ⟨g, 0, none⟩) c l :=
  ⟨hc, hm, fun k x hx => ⟨g, 0, rfl, by simpa using hV _ _ (by simpa using hB) (h.cell hx), u16_wf (hs x (List.mem_of_getElem? hx))⟩⟩
end
/-- 'make(api.Nat, n)' -/
theorem run_make_nat (k : IntKind) (n : Nat) (hn : n ≤ 16777216) (w : World) :
    (Instr.makeSlice 33 (.int k (n : Int)) (.int k (n : Int))).run Try.prog w = .ok (.slice (some ⟨w.heap.size, 0, none⟩) n n) (w.alloc (.cells (madeCells #[.int .u16 0] n) 130)) :=
  run_make_row' 33 130 (.int .u16 0) 2 Try.underlying33 infoN rfl k k n (by omega) (by omega) w

/-- v is a slice of the limbs l that a call has made from block B on: it reads in each world that holds what was made -/
def NewN (l : List Int) (B : Nat) (w : World) (v : Value) : Prop := ∃ a c, v = .slice a l.length c ∧ ∀ V, New B w V → NatR V a c l
theorem NewN.below {l : List Int} {B : Nat} {w w' : World} {v : Value} (h : NewN l B w v) (hb : Below w.heap.size w w') : NewN l B w' v := by
  obtain ⟨a, c, e, hV⟩ := h
  exact ⟨a, c, e, fun V hn => hV V (hn.below hb)⟩
theorem NewN.base {l : List Int} {B B' : Nat} {w : World} {v : Value} (h : NewN l B w v) (hB : B' ≤ B) : NewN l B' w v := by
  obtain ⟨a, c, e, hV⟩ := h
  exact ⟨a, c, e, fun V hn => hV V (hn.base hB)⟩
theorem NewN.nil (B : Nat) (w : World) : NewN [] B w (.slice none 0 0) := ⟨none, 0, rfl, fun _ _ => SlR.nil⟩
theorem NewN.own {l : List Int} {B : Nat} {w : World} {a : Option Addr} {c : Nat} (h : OwnN B w a c l) (hs : U16 l) : NewN l B w (.slice a l.length c) := ⟨a, c, rfl, fun _ hn => h.readsV hn hs⟩
/-- what a call gives that makes the limbs l -/
def RetN (l : List Int) (w : World) (e : Ending) (w' : World) : Prop := ∃ a c, e = .returned (.slice a l.length c) ∧ (∀ V, New w.heap.size w' V → NatR V a c l) ∧ Below w.heap.size w w'
theorem RetN.mk {l : List Int} {w w' : World} {v : Value} (h : NewN l w.heap.size w' v) (hb : Below w.heap.size w w') : RetN l w (.returned v) w' := by
  obtain ⟨a, c, rfl, hV⟩ := h
  exact ⟨a, c, rfl, hV, hb⟩
theorem RetN.own {l L : List Int} {w w' : World} {a : Option Addr} {c n : Nat} (h : OwnN w.heap.size w' a c l) (hs : U16 l) (hb : Below w.heap.size w w') (hL : L = l) (hn : n = l.length) : RetN L w (.returned (.slice a n c)) w' := by
  subst hL; subst hn; exact RetN.mk (NewN.own h hs) hb
end Go.Proofs.Ytmlldjcbijoheaa

/- Walks of the reference's natural numbers: limb, Norm, Of, short, Cmp, Valid, Same. -/
namespace Go.Proofs.Ytmlldjcbijoheaa
open Go.RowKit

set_option maxHeartbeats 400000 in
theorem limb01_any (l : List Int) (k : Nat) (a : Option Addr) (c : Nat) (w : World) (h : NatR w a c l) :
    Calls Try.prog 135 #[.slice a l.length c, .int .i64 k] w fun r w' => r = .returned (.int .i64 (limbAt l k)) ∧ w = w' := by
  have hl := h.len
  have hU := h.u16
  by_cases hlt : k < l.length
  · obtain ⟨x, hx⟩ := get_of_lt hlt
    obtain ⟨b, off, rfl, hc⟩ := h.cell hx
    have hxr := hU.get hx
    have he : limbAt l k = x := limbAt_some hx
    rw [he]
    clear h hU he hx
    obtain ⟨hx0, hx1⟩ := hxr
    go_enter Try.func135, Try.ntmps135
    go_wp2
    go_ret
    exact ⟨rfl, rfl⟩
  · have he : limbAt l k = 0 := limbAt_none (by omega)
    rw [he]
    clear h hU he
    go_enter Try.func135, Try.ntmps135
    go_wp2
    go_ret
    exact ⟨rfl, rfl⟩
theorem limb01_quiet (l : List Int) (k : Nat) (a : Option Addr) (c : Nat) (w : World) (h : NatR w a c l) :
    Calls Try.prog 135 #[.slice a l.length c, .int .i64 k] w fun r w' => r = .returned (.int .i64 (limbAt l k)) ∧ w' = w :=
  (limb01_any l k a c w h).mono fun _ _ h => ⟨h.1, h.2.symm⟩

set_option maxHeartbeats 400000 in
theorem norm01_any (l : List Int) (a : Option Addr) (c : Nat) (w : World) (h : NatR w a c l) (hl : l.length ≤ 16777216) :
    Calls Try.prog 123 #[.slice a l.length c] w (RetN (limbs (val l)) w) := by
  have hcap := h.1
  have hmx := h.2.1
  have H := Lib.hid h
  clear h
  unfold maxLen at hmx
  go_enter Try.func123, Try.ntmps123
  go_wp2
  go_loop [3] (fun n => ∃ k : Nat, k ≤ l.length ∧ n = .int .i64 k ∧ Hid (val (l.drop k) = 0)) (fun n => (intOf n).toNat)
  case atStart => exact ⟨l.length, Nat.le_refl _, rfl, val_drop_all (Nat.le_refl _)⟩
  case round =>
    obtain ⟨k, hk, rfl, hz⟩ := hrel
    by_cases h0 : k = 0
    · subst h0
      have hg : decide ((0 : Int) < ((0 : Nat) : Int)) = false := by simp
      have hcut : limbs (val l) = [] := by
        have : val l = 0 := by simpa using hz.out
        rw [this, limbs_zero]
      go_wp2_with (at_builtin; go_must (refine append_nats (B := w.heap.size) rfl (.tmp 19) (.tmp 22) rfl none 0 (l := []) rfl Own.nil a c (m := []) rfl H.out.zero [] rfl (by simp) (Nat.le_refl _) ?_); intro a' c' w1 hown hg1 hb1)
      go_ret
      exact RetN.own hown U16.nil hb1 rfl rfl
    · have hgt : decide ((0 : Int) < (k : Int)) = true := by simp; omega
      have hk1 : (k : Int) - 1 = ((k - 1 : Nat) : Int) := by omega
      obtain ⟨x, hx⟩ := get_of_lt (xs := l) (k := k - 1) (by omega)
      obtain ⟨b, off, rfl, hc⟩ := H.out.cell hx
      have hr := H.out.u16.get hx
      have hge : (0 : Int) ≤ (k : Int) - 1 := by omega
      have hvd := val_drop hx
      have ek : k - 1 + 1 = k := by omega
      rw [ek] at hvd
      have HV := Lib.hid hvd
      have HX := Lib.hid hx
      have HK := Lib.hid hk1
      have hc' : w.cell? ⟨b, off + (k - 1), none⟩ = some (.int .u16 x) := hc
      clear hvd hx hc ek hk1
      by_cases hx0 : x = 0
      · subst hx0
        have e0 : ((0 : Int) == 0) = true := rfl
        go_wp2
        all_goals
          go_round
          case rel => exact ⟨k - 1, by omega, by rw [HK.out], by show val _ = 0; rw [HV.out, hz.out]; rfl⟩
          case measure => simp [intOf]; omega
      · have e0 : (x == 0) = false := by simpa using hx0
        have hcut : limbs (val l) = l.take k := limbs_cut H.out.u16 hz.out (fun y _ hy => by
          rw [HX.out] at hy
          injection hy with hy
          rw [← hy]; exact hx0) hk
        have HC := Lib.hid hcut
        clear hcut
        have hlen : (l.take k).length = k := by simp; omega
        have HL := Lib.hid hlen
        clear hlen
        go_wp2_with (at_builtin; go_must (refine append_nats (B := w.heap.size) rfl (.tmp 19) (.tmp 22) rfl none 0 (l := []) rfl Own.nil (some ⟨b, off, none⟩) c (m := l.take k) (by rw [HL.out]; rfl) (H.out.take k) (l.take k) rfl (by rw [HL.out]; omega) (Nat.le_refl _) ?_); intro a' c' w1 hown hg1 hb1)
        go_ret
        exact RetN.own hown (H.out.u16.take k) hb1 HC.out HL.out.symm

theorem take_limbs (n : Nat) : U16 (limbs n) := limbs_u16 n
set_option maxHeartbeats 400000 in
theorem of01_any (n : Nat) (w : World) (hn : n < 18446744073709551616) :
    Calls Try.prog 116 #[.int .u64 n] w (RetN (limbs n) w) := by
  go_enter Try.func116, Try.ntmps116
  go_wp2
  go_loopw [0, 3] (fun i s wr => ∃ (m : Nat) (l : List Int) (a : Option Addr) (c : Nat), m ≤ n ∧ i = .int .u64 m ∧ s = .slice a l.length c ∧ OwnN w.heap.size wr a c l ∧ U16 l ∧ l.length ≤ 1000 ∧ Below w.heap.size w wr ∧ Hid (limbs n = l ++ limbs m)) (fun i _ _ => (intOf i).toNat)
  case atStart => exact ⟨n, [], none, 0, Nat.le_refl _, rfl, rfl, Own.nil, U16.nil, by simp, Below.refl _ _, rfl⟩
  case round =>
    obtain ⟨m, l, a, c, hm, rfl, rfl, ho, hU, hlen, hb, hr⟩ := hrel
    have HO := Lib.hid ho
    clear ho
    by_cases h0 : m = 0
    · subst h0
      have HR : limbs n = l := by have := hr.out; rw [limbs_zero] at this; simpa using this
      replace HR := Lib.hid HR
      go_wp2
      go_ret
      exact RetN.own HO.out hU hb HR.out rfl
    · have hgt : decide ((0 : Int) < (m : Int)) = true := by simp; omega
      have hs : limbs m = ((m % 65536 : Nat) : Int) :: limbs (m / 65536) := limbs_pos h0
      have hr2 : limbs n = (l ++ [((m % 65536 : Nat) : Int)]) ++ limbs (m / 65536) := by rw [hr.out, hs]; simp
      have HR := Lib.hid hr2
      clear hs hr2
      have hlt : m < 18446744073709551616 := by omega
      have hm1 : ((m : Int) % 65536) = ((m % 65536 : Nat) : Int) := by omega
      have hm2 : ((m : Int) / 65536) = ((m / 65536 : Nat) : Int) := by omega
      have HM1 := Lib.hid hm1
      have HM2 := Lib.hid hm2
      clear hm1 hm2
      go_wp2_with (at_builtin; go_must (refine append_nat rfl (.tmp 6) (.tmp 10) rfl a c rfl (HO.out.alloc _) ((m % 65536 : Nat) : Int) wr.heap.size 1 rfl (by simp <;> omega) (l ++ [((m % 65536 : Nat) : Int)]) rfl (by simp; omega) (by have := hb.size; simp; omega) ?_); intro a2 c2 w2 ho2 hg2 hx2)
      go_roundw
      case rel =>
        have hb1 : Below w.heap.size w w2 := below_append' (hb.alloc hb.size _) (HO.out.alloc _) hg2
        have hl4 : (l ++ [((m % 65536 : Nat) : Int)]).length ≤ 1000 := by
          have h4 : (limbs n).length ≤ 4 := limbs_len_le (by simpa using hn)
          rw [HR.out] at h4
          simp only [List.length_append] at h4 ⊢
          omega
        exact ⟨m / 65536, l ++ [((m % 65536 : Nat) : Int)], a2, c2, by omega, by rw [HM2.out], by simp, ho2, hU.app (U16.cons (by omega) U16.nil), hl4, hb1, HR.out⟩
      case measure => rw [HM2.out]; simp [intOf]; omega

theorem val_drop_le (l : List Int) (k : Nat) : val (l.drop k) ≤ val l := by
  by_cases hk : k ≤ l.length
  · have := val_split l k
    have h1 : 1 ≤ 65536 ^ (l.take k).length := Nat.one_le_pow _ _ (by omega)
    have h2 := Nat.mul_le_mul_right (val (l.drop k)) h1
    omega
  · rw [val_drop_all (by omega)]; omega
set_option maxHeartbeats 400000 in
theorem short01_any (l : List Int) (a : Option Addr) (c : Nat) (w : World) (h : NatR w a c l) (hv : val l < 18446744073709551616) :
    Calls Try.prog 128 #[.slice a l.length c] w fun r w' => r = .returned (.int .u64 (val l)) ∧ w = w' := by
  have hlen := h.len
  have H := Lib.hid h
  clear h
  go_enter Try.func128, Try.ntmps128
  go_wp2
  go_loop [3, 4] (fun n i => ∃ k : Nat, k ≤ l.length ∧ i = .int .i64 ((k : Int) - 1) ∧ n = .int .u64 (val (l.drop k) : Nat)) (fun _ i => (intOf i + 1).toNat)
  case atStart => exact ⟨l.length, Nat.le_refl _, rfl, by rw [val_drop_all (Nat.le_refl _)]; rfl⟩
  case round =>
    obtain ⟨k, hk, rfl, rfl⟩ := hrel
    by_cases h0 : k = 0
    · subst h0
      go_wp2
      go_ret
      exact ⟨by simp, rfl⟩
    · have hgt : decide ((0 : Int) ≤ (k : Int) - 1) = true := by simp; omega
      have hge : (0 : Int) ≤ (k : Int) - 1 := by omega
      obtain ⟨x, hx⟩ := get_of_lt (xs := l) (k := k - 1) (by omega)
      obtain ⟨b, off, rfl, hc⟩ := H.out.cell hx
      obtain ⟨hx0, hx1⟩ := H.out.u16.get hx
      have hvd := val_drop hx
      have ek : k - 1 + 1 = k := by omega
      rw [ek] at hvd
      have hle := val_drop_le l (k - 1)
      have HV := Lib.hid hvd
      have hb1 : (val (l.drop k) : Int) * 65536 + x ≤ 18446744073709551615 := by omega
      have hb0 : 0 ≤ (val (l.drop k) : Int) * 65536 := by omega
      have hb2 : (val (l.drop k) : Int) * 65536 ≤ 18446744073709551615 := by omega
      clear hvd ek hx hle
      go_wp2
      all_goals
        go_round
        case rel => exact ⟨k - 1, by omega, by first | (congr 1; omega) | rfl, val_int (by rw [HV.out]; omega)⟩
        case measure => simp [intOf]; omega

set_option maxHeartbeats 400000 in
theorem cmp01_any (l m : List Int) (a a' : Option Addr) (c c' : Nat) (w : World) (h : NatR w a c l) (h' : NatR w a' c' m) (hl : l.length ≤ 16777216) (hm : m.length ≤ 16777216) :
    Calls Try.prog 134 #[.slice a l.length c, .slice a' m.length c'] w fun r w' => r = .returned (.int .i64 (cmpN (val l) (val m))) ∧ w = w' := by
  have hU := h.u16
  have hU' := h'.u16
  have H := Lib.hid h
  have H' := Lib.hid h'
  clear h h'
  go_enter Try.func134, Try.ntmps134
  go_wp2
  all_goals
    go_loop [5] (fun i => ∃ k : Nat, k ≤ 16777216 ∧ i = .int .i64 ((k : Int) - 1) ∧ Hid (val (l.drop k) = val (m.drop k))) (fun i => (intOf i + 1).toNat)
    case atStart => first
        | exact ⟨m.length, hm, rfl, by show _ = _; rw [val_drop_all (by omega), val_drop_all (by omega)]⟩
        | exact ⟨l.length, hl, rfl, by show _ = _; rw [val_drop_all (by omega), val_drop_all (by omega)]⟩
    case round =>
      obtain ⟨k, hk, rfl, he⟩ := hrel
      by_cases h0 : k = 0
      · subst h0
        have hz : cmpN (val l) (val m) = 0 := by have := he.out; simp at this; rw [this]; simp [cmpN]
        replace hz := Lib.hid hz
        go_wp2
        go_ret
        exact ⟨ret_int hz.out.symm, rfl⟩
      · have hgt : decide ((0 : Int) ≤ (k : Int) - 1) = true := by simp; omega
        have hge : (0 : Int) ≤ (k : Int) - 1 := by omega
        have ek : k - 1 + 1 = k := by omega
        have hkk : (k : Int) - 1 = ((k - 1 : Nat) : Int) := by omega
        have CX := limb01_any l (k - 1) a c w H.out
        have CY := limb01_any m (k - 1) a' c' w H'.out
        have hlx := limbAt_in hU (k - 1)
        have hly := limbAt_in hU' (k - 1)
        have hL : val (l.drop k) = val (m.drop k) → limbAt l (k - 1) < limbAt m (k - 1) → val l < val m := fun e => val_lt_of hU hU' (k - 1) (by rw [ek]; exact e)
        have hG : val (l.drop k) = val (m.drop k) → limbAt m (k - 1) < limbAt l (k - 1) → val m < val l := fun e => val_lt_of hU' hU (k - 1) (by rw [ek]; exact e.symm)
        have hE : val (l.drop k) = val (m.drop k) → limbAt l (k - 1) = limbAt m (k - 1) → val (l.drop (k - 1)) = val (m.drop (k - 1)) := fun e e2 => by rw [val_drop_at, val_drop_at (l := m), ek, e, e2]
        rw [← hkk] at CX CY
        revert CX CY hlx hly hL hG hE
        generalize limbAt l (k - 1) = x
        generalize limbAt m (k - 1) = y
        intro CX CY hlx hly hL hG hE
        replace CX := Lib.hid CX
        replace CY := Lib.hid CY
        replace hL := hL he.out
        replace hG := hG he.out
        have HE := Lib.hid (hE he.out)
        clear hE hkk
        by_cases hlt : x < y
        · have hv := hL hlt
          clear hL hG HE
          go_wp2_with (go_at_call 135; (first | ((with_reducible refine CX.out.mono ?_); rintro e w' ⟨rfl, rfl⟩) | ((with_reducible refine CY.out.mono ?_); rintro e w' ⟨rfl, rfl⟩)))
          go_ret
          exact ⟨ret_int (by unfold cmpN; rw [if_pos hv]), rfl⟩
        · by_cases hgt2 : y < x
          · have hv := hG hgt2
            clear hL hG HE
            go_wp2_with (go_at_call 135; (first | ((with_reducible refine CX.out.mono ?_); rintro e w' ⟨rfl, rfl⟩) | ((with_reducible refine CY.out.mono ?_); rintro e w' ⟨rfl, rfl⟩)))
            go_ret
            exact ⟨ret_int (by unfold cmpN; rw [if_neg (by omega), if_pos hv]), rfl⟩
          · clear hL hG
            go_wp2_with (go_at_call 135; (first | ((with_reducible refine CX.out.mono ?_); rintro e w' ⟨rfl, rfl⟩) | ((with_reducible refine CY.out.mono ?_); rintro e w' ⟨rfl, rfl⟩)))
            all_goals
              go_round
              case rel => exact ⟨k - 1, by omega, by first | (congr 1; omega) | rfl, HE.out (by omega)⟩
              case measure => simp [intOf]; omega
end Go.Proofs.Ytmlldjcbijoheaa

/- Steps of the schoolbook's sums, differences, products and quotients of limbs. No function of the program in sight. -/
namespace Go.Proofs.Ytmlldjcbijoheaa

theorem pow_pos16 (k : Nat) : 1 ≤ 65536 ^ k := Nat.one_le_pow _ _ (by omega)
theorem sub_step (l m o : List Int) (k bo bo2 d : Nat) (ho : o.length = k) (h : val (l.take k) + 65536 ^ k * bo = val (m.take k) + val o)
    (hd : d + (limbAt m k).toNat + bo = (limbAt l k).toNat + 65536 * bo2) : val (l.take (k + 1)) + 65536 ^ (k + 1) * bo2 = val (m.take (k + 1)) + val (o ++ [(d : Int)]) := by
  rw [val_take_at, val_take_at, val_snoc, ho, Nat.pow_succ]
  have h1 := congrArg (65536 ^ k * ·) hd
  simp only [Nat.mul_add] at h1
  have e : ((d : Int)).toNat = d := by omega
  rw [e, Nat.mul_assoc]
  omega
theorem sub_end {l m o : List Int} {bo : Nat} (hl : U16 l) (hm : U16 m) (hou : U16 o) (ho : o.length = l.length) (h : val (l.take l.length) + 65536 ^ l.length * bo = val (m.take l.length) + val o) (hge : val m ≤ val l) : val o = val l - val m := by
  rw [val_take_all (Nat.le_refl _)] at h
  have h1 := val_lt hl
  have h2 := val_lt hou
  rw [ho] at h2
  have h3 : val (m.take l.length) = val m := by
    obtain ⟨lo, hlo, e⟩ := val_split_at hm l.length
    by_cases hc : l.length ≤ m.length
    · have e2 := val_split m l.length
      have e3 : (m.take l.length).length = l.length := by simp; omega
      rw [e3] at e2
      have : val (m.drop l.length) = 0 := by
        apply Nat.eq_zero_of_not_pos
        intro hp
        have := Nat.mul_le_mul_left (65536 ^ l.length) hp
        omega
      rw [this] at e2
      omega
    · rw [val_take_all (by omega)]
  rw [h3] at h
  have hb : bo = 0 := by
    apply Nat.eq_zero_of_not_pos
    intro hp
    have := Nat.mul_le_mul_left (65536 ^ l.length) hp
    omega
  subst hb
  omega
theorem add_step (l m o : List Int) (k c c2 d : Nat) (ho : o.length = k) (h : val o + 65536 ^ k * c = val (l.take k) + val (m.take k))
    (hd : d + 65536 * c2 = (limbAt l k).toNat + (limbAt m k).toNat + c) : val (o ++ [(d : Int)]) + 65536 ^ (k + 1) * c2 = val (l.take (k + 1)) + val (m.take (k + 1)) := by
  rw [val_take_at, val_take_at, val_snoc, ho, Nat.pow_succ]
  have h1 := congrArg (65536 ^ k * ·) hd
  simp only [Nat.mul_add] at h1
  have e : ((d : Int)).toNat = d := by omega
  rw [e, Nat.mul_assoc]
  omega
theorem val_set {o : List Int} {j : Nat} {z : Int} (hz : o[j]? = some z) (d : Int) : val (o.set j d) + 65536 ^ j * z.toNat = val o + 65536 ^ j * d.toNat := by
  have hj := lt_of_get hz
  have e1 := val_split (o.set j d) j
  have e2 := val_split o j
  have l1 : ((o.set j d).take j).length = j := by simp; omega
  have l2 : (o.take j).length = j := by simp; omega
  have t : (o.set j d).take j = o.take j := by rw [List.take_set_of_le (Nat.le_refl _)]
  have g : (o.set j d)[j]? = some d := by simp [hj]
  rw [l1, t, val_drop g, List.drop_set_of_lt (by omega)] at e1
  rw [l2, val_drop hz] at e2
  rw [e1, e2, Nat.mul_add, Nat.mul_add]
  omega
theorem mul_step (l m o : List Int) (i k c c2 d : Nat) (z x y : Int) (hz : o[i + k]? = some z) (hy : limbAt m k = y)
    (h : val o + 65536 ^ (i + k) * c = val (l.take i) * val m + 65536 ^ i * (x.toNat * val (m.take k)))
    (hd : d + 65536 * c2 = z.toNat + x.toNat * y.toNat + c) :
    val (o.set (i + k) (d : Int)) + 65536 ^ (i + (k + 1)) * c2 = val (l.take i) * val m + 65536 ^ i * (x.toNat * val (m.take (k + 1))) := by
  have h1 := val_set hz (d : Int)
  have e : ((d : Int)).toNat = d := by omega
  rw [e] at h1
  have h2 := congrArg (65536 ^ (i + k) * ·) hd
  simp only [Nat.mul_add] at h2
  rw [val_take_at, hy, ← Nat.add_assoc, Nat.pow_succ]
  have e3 : 65536 ^ i * (x.toNat * (val (m.take k) + 65536 ^ k * y.toNat)) = 65536 ^ i * (x.toNat * val (m.take k)) + 65536 ^ (i + k) * (x.toNat * y.toNat) := by
    rw [Nat.mul_add, Nat.mul_add, Nat.pow_add, Nat.mul_assoc (65536 ^ i) (65536 ^ k)]
    congr 2
    rw [← Nat.mul_assoc, Nat.mul_comm x.toNat, Nat.mul_assoc]
  rw [e3, Nat.mul_assoc (65536 ^ (i + k)) 65536 c2]
  omega
theorem mul_end (l m : List Int) (i : Nat) (x : Int) (hx : l[i]? = some x) : val (l.take i) * val m + 65536 ^ i * (x.toNat * val m) = val (l.take (i + 1)) * val m := by
  rw [val_take hx, Nat.add_mul, Nat.mul_assoc]
/-- beyond the second factor there is at most one limb to carry into -/
theorem mul_far {l m o : List Int} {i k c : Nat} {x : Int} (hl : U16 l) (hm : U16 m) (hx : l[i]? = some x) (hk : m.length ≤ k) (hc : 0 < c)
    (h : val o + 65536 ^ (i + k) * c = val (l.take i) * val m + 65536 ^ i * (x.toNat * val (m.take k))) : k ≤ m.length := by
  rw [val_take_all hk, mul_end l m i x hx] at h
  have h1 := val_lt (hl.take (i + 1))
  have e1 : (l.take (i + 1)).length = i + 1 := by have := lt_of_get hx; simp; omega
  rw [e1] at h1
  have h2 := val_lt hm
  have h3 : val (l.take (i + 1)) * val m < 65536 ^ (i + 1) * 65536 ^ m.length := Nat.mul_lt_mul'' h1 h2
  rw [← Nat.pow_add] at h3
  have h4 := Nat.mul_le_mul_left (65536 ^ (i + k)) hc
  have h5 : 65536 ^ (i + k) < 65536 ^ (i + 1 + m.length) := by omega
  have h6 := (Nat.pow_lt_pow_iff_right (by omega : 1 < 65536)).1 h5
  omega
theorem carry_lt {z x y c d c2 : Nat} (hz : z ≤ 65535) (hx : x ≤ 65535) (hy : y ≤ 65535) (hc : c ≤ 65535) (hd : d + 65536 * c2 = z + x * y + c) : c2 ≤ 65535 := by
  have := Nat.mul_le_mul hx hy
  omega
theorem val_replicate (n : Nat) : val (List.replicate n 0) = 0 := by
  induction n with
  | zero => rfl
  | succ n ih => rw [List.replicate_succ, val, ih]; rfl
theorem u16_replicate (n : Nat) : U16 (List.replicate n 0) := fun x hx => by have := List.eq_of_mem_replicate hx; omega

/-- one step of the long division -/
theorem div_step (l q : List Int) (k b r d r2 : Nat) (x : Int) (hx : l[k]? = some x) (h : val (l.drop (k + 1)) = val q * b + r) (hd : x.toNat + 65536 * r = d * b + r2) :
    val (l.drop k) = val ((d : Int) :: q) * b + r2 := by
  rw [val_drop hx, h, val]
  have e : ((d : Int)).toNat = d := by omega
  rw [e, Nat.add_mul, Nat.mul_add, ← Nat.mul_assoc]
  omega
theorem div_digit {x b r : Nat} (hx : x ≤ 65535) (hr : r < b) : (x + 65536 * r) / b ≤ 65535 := by
  have : (x + 65536 * r) / b < 65536 := by
    apply (Nat.div_lt_iff_lt_mul (by omega)).2
    omega
  omega
end Go.Proofs.Ytmlldjcbijoheaa

/- Walks of the reference's natural numbers: Valid, Same, Sub, Mul. -/
namespace Go.Proofs.Ytmlldjcbijoheaa
open Go.RowKit

/-- without leading zeros -/
def canonB (l : List Int) : Bool := decide (limbs (val l) = l)
theorem canonB_last {l : List Int} (h : U16 l) {x : Int} (hx : l[l.length - 1]? = some x) (h0 : 0 < l.length) : canonB l = !(x == 0) := by
  unfold canonB
  by_cases hx0 : x = 0
  · subst hx0
    simp only [beq_self_eq_true, Bool.not_true, decide_eq_false_iff_not]
    intro e
    have : (limbs (val l)).getLast? = some 0 := by rw [e, List.getLast?_eq_getElem?]; exact hx
    exact limbs_last this rfl
  · have e : (x == 0) = false := by simpa using hx0
    rw [e]
    simp only [Bool.not_false, decide_eq_true_eq]
    refine limbs_canon h fun y hy => ?_
    rw [List.getLast?_eq_getElem?, hx] at hy
    injection hy with hy
    rw [← hy]; exact hx0
set_option maxHeartbeats 400000 in
theorem valid01_any (l : List Int) (a : Option Addr) (c : Nat) (w : World) (h : NatR w a c l) :
    Calls Try.prog 113 #[.slice a l.length c] w fun r w' => r = .returned (.bool (canonB l)) ∧ w = w' := by
  have hlen := h.len
  have H := Lib.hid h
  clear h
  by_cases h0 : l.length = 0
  · have hl : l = [] := List.eq_nil_of_length_eq_zero h0
    subst hl
    have hc : canonB [] = true := by simp [canonB, val, limbs_zero]
    rw [hc]
    clear hc h0
    go_enter Try.func113, Try.ntmps113
    go_wp2
    go_ret
    exact ⟨rfl, rfl⟩
  · obtain ⟨x, hx⟩ := get_of_lt (xs := l) (k := l.length - 1) (by omega)
    obtain ⟨b, off, rfl, hc⟩ := H.out.cell hx
    have hcan := canonB_last H.out.u16 hx (by omega)
    have HC := Lib.hid hcan
    have hb : ((l.length : Int) == 0) = false := by simp; exact fun e => h0 (by simp [e])
    have hge : (0 : Int) ≤ (l.length : Int) - 1 := by omega
    clear hcan hx
    by_cases hx0 : x = 0
    · subst hx0
      go_enter Try.func113, Try.ntmps113
      go_wp2
      go_ret
      exact ⟨ret_bool (by rw [HC.out]; rfl), rfl⟩
    · have e0 : (x == 0) = false := by simpa using hx0
      have e1 : (x != 0) = true := by simpa using hx0
      go_enter Try.func113, Try.ntmps113
      go_wp2
      go_ret
      exact ⟨ret_bool (by rw [HC.out, e0]; rfl), rfl⟩

set_option maxHeartbeats 400000 in
theorem same01_any (xs ys : List Int) (a a' : Option Addr) (c c' : Nat) (w : World) (h : NatR w a c xs) (h' : NatR w a' c' ys) :
    Calls Try.prog 114 #[.slice a xs.length c, .slice a' ys.length c'] w fun r w' => r = .returned (.bool (decide (xs = ys))) ∧ Below w.heap.size w w' := by
  have H := Lib.hid h
  have H' := Lib.hid h'
  have hl := h.len
  have hl' := h'.len
  clear h h'
  by_cases hlen : xs.length = ys.length
  · have hlb : ((xs.length : Int) != (ys.length : Int)) = false := by simp; omega
    have HL := Lib.hid hlen
    clear hlen
    go_enter Try.func114, Try.ntmps114
    go_wp2
    go_loopw [5] (fun i wr => ∃ k : Nat, k ≤ xs.length ∧ i = .int .i64 k ∧ Below w.heap.size w wr ∧ Hid (xs.take k = ys.take k)) (fun i _ => xs.length - (intOf i).toNat)
    case atStart => exact ⟨0, by omega, rfl, Below.refl _ _, by simp [Hid]⟩
    case round =>
      obtain ⟨k, hk, rfl, hb, hp⟩ := hrel
      by_cases hlt : k < xs.length
      · obtain ⟨x, hx⟩ := get_of_lt hlt
        obtain ⟨y, hy⟩ := get_of_lt (xs := ys) (k := k) (by have := HL.out; omega)
        obtain ⟨b, off, rfl, hE⟩ := H.out.2.2 k x hx
        obtain ⟨b', off', rfl, hE'⟩ := H'.out.2.2 k y hy
        have hc : wr.cell? ⟨b, off + k, none⟩ = some (.int .u16 x) := by have := (hE.ext (Ext.below hb)).1; simpa using this
        have hc' : wr.cell? ⟨b', off' + k, none⟩ = some (.int .u16 y) := by have := (hE'.ext (Ext.below hb)).1; simpa using this
        have hky : (k : Int) < (ys.length : Int) := by have := HL.out; omega
        have HX := Lib.hid hx
        have HY := Lib.hid hy
        clear hx hy hE hE'
        by_cases he : x = y
        · have hbe : (x != y) = false := by simpa using he
          have HE := Lib.hid he
          clear he
          go_wp2
          go_quiet (fail)
          go_wp2
          refine ⟨⟨k + 1, by omega, by go_num, below_drewN hb _, ?_⟩, by simp [intOf]; omega⟩
          rw [take_more HX.out, take_more HY.out, hp.out, HE.out]; rfl
        · have hbe : (x != y) = true := by simpa using he
          have HE := Lib.hid he
          clear he
          go_wp2
          go_quiet (fail)
          go_wp2
          go_ret
          refine ⟨ret_bool ?_, below_drewN hb _⟩
          refine (decide_eq_false (fun e => HE.out ?_)).symm
          have h1 := HX.out
          have h2 := HY.out
          rw [e, h2] at h1
          exact (Option.some.inj h1).symm
      · go_wp2
        go_ret
        refine ⟨ret_bool ?_, hb⟩
        have := hp.out
        rw [take_all hlt, List.take_of_length_le (by have := HL.out; omega)] at this
        rw [this]; simp
  · have hlb : ((xs.length : Int) != (ys.length : Int)) = true := by simp; omega
    have hd : decide (xs = ys) = false := decide_eq_false (fun e => hlen (by rw [e]))
    rw [hd]
    clear hlen hd
    go_enter Try.func114, Try.ntmps114
    go_wp2
    go_ret
    exact ⟨rfl, Below.refl _ _⟩
end Go.Proofs.Ytmlldjcbijoheaa
