/- Walks: the program's natural numbers: Of, Uint. -/
import Derived.Test.YtaihkpjbnkgmlaaGreatProg
import Derived.Test.YtaihkpjbnkgmlaaGreatRf1
import Derived.Deep.QuietTactic
import Derived.BigQuiet
import Derived.Deep.OwnRows
import Derived.Laws.CopyOwn
import Derived.Maps.Range
import Derived.Maps.AppendAt
import Derived.Laws.BitsAllLaws
import Derived.Deep.LoopGhost

/- Words for slices of limbs: made by append, made whole and written, handed back. -/
namespace Go.Proofs.YtaihkpjbnkgmlaaGreat
open Go.RowKit

def natC (x : Int) : List Value := [.int .u16 x]
theorem natC_len (s : Int) : (natC s).length = 1 := rfl
theorem natC_one (s : Int) : ∀ u ∈ natC s, u.oneCell' = true := by simp [natC, Value.oneCell']
theorem natC_cell {w : World} {b : Nat} {s : Int} (h : w.cell? ⟨b, 0, none⟩ = some (.int .u16 s)) : ∀ j u, (natC s)[j]? = some u → w.cell? ⟨b, j, none⟩ = some u := by
 intro j u hu
 match j, hu with
 | 0, hu => simp [natC] at hu; subst hu; exact h
theorem natC_map (l : List Int) : l.flatMap natC = l.map (Value.int .u16) := by
 induction l with
 | nil => rfl
 | cons x l ih => rw [List.flatMap_cons, ih]; rfl
/-- the call owns a slice of limbs -/
abbrev OwnN (B : Nat) (w : World) (a : Option Addr) (c : Nat) (l : List Int) : Prop := Own natC 1 205 B w a c l
theorem infoN : (Tryz.prog.info? 205).map (fun i => (i.zero, i.size, i.bytes)) = some (some (.int .u16 0), 1, 2) := by kernel_rfl

theorem NatR.u16 {w : World} {a : Option Addr} {c : Nat} {l : List Int} (h : NatR w a c l) : U16 l := fun x hx => by
 obtain ⟨k, hk⟩ := List.mem_iff_getElem?.1 hx
 obtain ⟨b, off, _, he⟩ := h.2.2 k x hk
 exact u16_of he.2
theorem NatR.take {w : World} {a : Option Addr} {c : Nat} {l : List Int} (h : NatR w a c l) (k : Nat) : NatR w a c (l.take k) := by
 refine ⟨by have := h.1; simp; omega, h.2.1, fun j x hx => ?_⟩
 rw [List.getElem?_take] at hx
 split at hx
 · exact h.2.2 j x hx
 · cases hx
theorem NatR.zero {w : World} {a : Option Addr} {c : Nat} {l : List Int} (h : NatR w a c l) : NatR w a c [] := by have := h.take 0; simpa using this
theorem NatR.cell {w : World} {a : Option Addr} {c : Nat} {l : List Int} (h : NatR w a c l) {k : Nat} {x : Int} (hx : l[k]? = some x) : ∃ b off, a = some ⟨b, off, none⟩ ∧ w.cell? ⟨b, off + k, none⟩ = some (.int .u16 x) := by
 obtain ⟨b, off, e, hc⟩ := h.2.2 k x hx
 exact ⟨b, off, e, by simpa using hc.1⟩

theorem OwnN.reads1 {B : Nat} {w : World} {a : Option Addr} {c : Nat} {l : List Int} (h : OwnN B w a c l) (hs : U16 l) : NatR w a c l :=
 Own.reads natC_len h fun g o x hx hc => ⟨by simpa using hc 0 _ rfl, u16_wf (hs x hx)⟩
theorem OwnN.readsV {B : Nat} {w V : World} {a : Option Addr} {c : Nat} {l : List Int} (h : OwnN B w a c l) (hV : New B w V) (hs : U16 l) : NatR V a c l := by
 have := Own.readsIn (E := IntE .u16) (β := Int) id natC_len h hV (fun b o x hx hc => ⟨by simpa using hc 0 _ rfl, u16_wf (hs x hx)⟩)
 rwa [List.map_id] at this

/-- 'l = append(l, x)' of one limb -/
theorem append_nat {B : Nat} {w : World} {l : List Int} {ops : Array Oper} {rest : List Oper} {o : Oper} {act : Act} {Q : Exit → Act → World → Prop} (hgd : o.guard = none) (s y : Operand)
  (ho : o.op = .call { callee := .builtin .append, args := #[s, y], argTypes := #[39, 39] })
  (a : Option Addr) (c : Nat) (hs : act.eval s = .slice a l.length c) (hown : OwnN B w a c l)
  (x : Int) (b c1 : Nat) (hy : act.eval y = .slice (some ⟨b, 0, none⟩) 1 c1) (hcell : w.cell? ⟨b, 0, none⟩ = some (.int .u16 x))
  (l2 : List Int) (hl2 : l2 = l ++ [x]) (hlen : l2.length ≤ 16777216) (hB : B ≤ w.heap.size)
  (h : ∀ a' c' w', OwnN B w' a' c' l2 → w.grownBy w' (Value.ownBlock (.slice a l.length c)) → ((∃ g, a' = some ⟨g, 0, none⟩ ∧ (a = some ⟨g, 0, none⟩ ∨ g = w.heap.size))) →
   wpList Tryz.prog ops Q rest (act.put o.dst (.slice a' l2.length c')) w') : wpList Tryz.prog ops Q (o :: rest) act w :=
 wpList_append_1 hgd s y 39 ho Tryz.underlying39 infoN rfl (by omega) (by omega) natC_len a c hs hown x (natC_one x) b c1 hy (natC_cell hcell) l2 hl2 hlen hB h

section
variable {α : Type} {f : α → List Value} {sz : Nat} {t : TypeId} {B : Nat} {w : World} {l m : List α} {P : Program}
theorem run_append_of_nil (ts ty e : TypeId) (i : TypeInfo) (ht : P.underlying ts = some (.slice e)) (hi : P.info? e = some i)
  (v : Value) (n : Nat) (xs : List Value) (size : Nat) (hown : w.ownsRow B e size v n xs) (c : Nat) : (Builtin.append_ #[ts, ts] ty #[v, .slice none 0 c]).run P w = .ok v w := by
 rcases hown.2 with ⟨rfl, rfl⟩ | ⟨g, cap, cur, rfl, _, _, hnc, _⟩
 · simp [Builtin.append_, run_underlying ht, sizeOf, typeInfo, hi, Builtin.lenOf, Builtin.firstCells]
 · simp [Builtin.append_, run_underlying ht, sizeOf, typeInfo, hi, Builtin.lenOf, Builtin.firstCells, hnc, storeCells]
/-- 'l = append(l, m...)', m read from anywhere -/
theorem wp_append_m {o : Oper} {act : Act} {K : Act → World → Prop} {Q : Exit → Act → World → Prop} (s y : Operand) (ts : TypeId)
  (ho : o.op = .call { callee := .builtin .append, args := #[s, y], argTypes := #[ts, ts] })
  {z : Value} {bytes : Nat} (ht : P.underlying ts = some (.slice t)) (hi : (P.info? t).map (fun i => (i.zero, i.size, i.bytes)) = some (some z, sz, bytes)) (hz : z.cells.size = sz) (hsz : 0 < sz) (hby : bytes ≤ 1024)
  (hf : ∀ x, (f x).length = sz) (a : Option Addr) (c : Nat) (hs : act.eval s = .slice a l.length c) (hown : Own f sz t B w a c l)
  (hone : ∀ x ∈ m, ∀ u ∈ f x, u.oneCell' = true) (am : Option Addr) (cm : Nat) (hy : act.eval y = .slice am m.length cm)
  (hcell : ∀ k x, m[k]? = some x → ∃ b off, am = some ⟨b, off, none⟩ ∧ ∀ j u, (f x)[j]? = some u → w.cell? ⟨b, off + (k * sz + j), none⟩ = some u)
  (l2 : List α) (hl2 : l2 = l ++ m) (hlen : l2.length ≤ 16777216) (hB : B ≤ w.heap.size)
  (h : ∀ a' c' w', Own f sz t B w' a' c' l2 → w.grownBy w' (Value.ownBlock (.slice a l.length c)) → Below B w w' →
   K (act.put o.dst (.slice a' l2.length c')) w') : o.wp P act w K Q := by
 subst hl2
 obtain ⟨i, hi0, hz0, hz1, hz2⟩ := info_parts hi
 simp only [List.length_append] at hlen
 have hf2 : (l ++ m).flatMap f = l.flatMap f ++ m.flatMap f := by simp
 have key : ∃ v' w', (Builtin.append_ #[ts, ts] o.type #[.slice a l.length c, .slice am m.length cm]).run P w = .ok v' w' ∧ w'.ownsRow B t sz v' (l.length + m.length) (l.flatMap f ++ m.flatMap f) ∧ w.grownBy w' (Value.ownBlock (.slice a l.length c)) := by
  cases am with
  | none =>
   have hm : m = [] := by
    cases m with
    | nil => rfl
    | cons x m => obtain ⟨b, off, e, _⟩ := hcell 0 x rfl; cases e
   subst hm
   exact ⟨_, w, run_append_of_nil ts o.type t i ht hi0 _ _ _ sz hown cm, by have := hown; unfold Own at this; simpa using this, World.grownBy.refl w _⟩
  | some ad =>
   obtain ⟨v', w', hr, h2, h3, _, _⟩ := run_append_own_at (P := P) w B ts o.type t i z sz bytes ht hi0 hz0 hz1 hz2 hz hsz (.slice a l.length c) l.length (l.flatMap f) hown ad m.length cm (m.flatMap f) (flatMap_len hf m)
    (fun j u hu => by
     have hj : j < m.length * sz := by rw [← flatMap_len hf m]; exact lt_of_get hu
     have hk : j / sz < m.length := (Nat.div_lt_iff_lt_mul hsz).2 hj
     obtain ⟨x, hx⟩ := get_of_lt hk
     obtain ⟨b, off, e, hc⟩ := hcell _ x hx
     injection e with e
     subst e
     have hd : j = j / sz * sz + j % sz := by have := Nat.div_add_mod j sz; rw [Nat.mul_comm] at this; omega
     have h1 := flatMap_at hf m (j / sz) x (j % sz) hx (Nat.mod_lt _ hsz)
     rw [← hd, hu] at h1
     have := hc _ _ h1.symm
     rw [Addr.add_lit, hd]
     exact this) (fun u hu => by
     obtain ⟨x, hx, hux⟩ := List.mem_flatMap.1 hu
     exact hone x hx u hux) (by unfold maxLen; omega)
    (by have : (l.length + m.length) * bytes ≤ 16777216 * 1024 := Nat.mul_le_mul hlen hby
        omega) hB
   exact ⟨v', w', hr, h2, h3⟩
 obtain ⟨v', w', hr, h2, h3⟩ := key
 have hbel : Below B w w' := (Below.refl _ _).grown h3 hB (fun k hk => by
  cases a with
  | none => simp [Value.ownBlock] at hk
  | some g => simp [Value.ownBlock] at hk; subst hk; exact (hown.lt rfl).1)
 unfold Oper.wp execOp
 simp only [ho, resolve, invoke, builtin, Sem.run_bind, Sem.run_pure, Result.andThen_ok, List.map_toArray, List.map_cons, List.map_nil, hs, hy, hr]
 have hn : (l ++ m).length = l.length + m.length := by simp
 rcases h2.2 with ⟨e, e0⟩ | ⟨g, cap, cur, e, _⟩
 ·
  have hn0 : (l ++ m).length = 0 := by rw [hn, e0]
  subst e
  have := h none 0 w' (by unfold Own; rw [hf2, hn0]; rw [e0] at h2; exact h2) h3 hbel
  rw [hn0] at this
  exact this
 ·
  subst e
  have := h (some ⟨g, 0, none⟩) cap w' (by unfold Own; rw [hf2, hn]; exact h2) h3 hbel
  rw [hn] at this
  exact this
end

/-- 'l = append(l, m...)' of limbs -/
theorem append_nats {B : Nat} {w : World} {l m : List Int} {ops : Array Oper} {rest : List Oper} {o : Oper} {act : Act} {Q : Exit → Act → World → Prop} (hgd : o.guard = none) (s y : Operand)
  (ho : o.op = .call { callee := .builtin .append, args := #[s, y], argTypes := #[39, 39] })
  (a : Option Addr) (c : Nat) (hs : act.eval s = .slice a l.length c) (hown : OwnN B w a c l)
  (am : Option Addr) (cm : Nat) (hy : act.eval y = .slice am m.length cm) (hr : NatR w am cm m)
  (l2 : List Int) (hl2 : l2 = l ++ m) (hlen : l2.length ≤ 16777216) (hB : B ≤ w.heap.size)
  (h : ∀ a' c' w', OwnN B w' a' c' l2 → w.grownBy w' (Value.ownBlock (.slice a l.length c)) → Below B w w' →
   wpList Tryz.prog ops Q rest (act.put o.dst (.slice a' l2.length c')) w') : wpList Tryz.prog ops Q (o :: rest) act w :=
 wpList_plain hgd fun _ hK => wp_append_m s y 39 ho Tryz.underlying39 infoN rfl (by omega) (by omega) natC_len a c hs hown (fun x _ => natC_one x) am cm hy
  (fun k x hx => by
   obtain ⟨b, off, e, hc⟩ := hr.cell hx
   refine ⟨b, off, e, fun j u hu => ?_⟩
   match j, hu with
   | 0, hu => simp [natC] at hu; subst hu; simpa using hc) l2 hl2 hlen hB fun a' c' w' h1 h2 h3 => hK _ _ (h a' c' w' h1 h2 h3)

/-- block g is a row of just these limbs -/
def BlkN (w : World) (g : Nat) (l : List Int) : Prop := Blk w g 205 (l.map (Value.int .u16)).toArray
section
variable {w w' : World} {g : Nat} {l : List Int}
theorem BlkN.lt (h : BlkN w g l) : g < w.heap.size := Blk.lt h
theorem BlkN.cell (h : BlkN w g l) {i : Nat} {x : Int} (hx : l[i]? = some x) : w.cell? ⟨g, i, none⟩ = some (.int .u16 x) := by
 rw [Blk.cell h i]; simp [hx]
theorem BlkN.frozen (h : BlkN w g l) (i : Nat) : w.frozen? ⟨g, i, none⟩ = false := Blk.frozen h i
theorem BlkN.set_ (h : BlkN w g l) (i : Nat) (x : Int) : BlkN (w.setCell ⟨g, i, none⟩ (.int .u16 x)) g (l.set i x) := by
 have := Blk.set_ h i (.int .u16 x)
 unfold BlkN
 rw [List.setIfInBounds_toArray, ← List.map_set] at this
 exact this
theorem BlkN.below (h : BlkN w g l) (hb : Below w.heap.size w w') : BlkN w' g l := Blk.below' h hb
theorem BlkN.alloc (h : BlkN w g l) (o : Obj) : BlkN (w.alloc o) g l := Blk.alloc h o
theorem BlkN.new (w : World) (n : Nat) : BlkN (w.alloc (.cells (madeCells #[.int .u16 0] n) 205)) w.heap.size (List.replicate n 0) := by
 have := Blk.new w 205 (madeCells #[.int .u16 0] n)
 unfold BlkN
 have e : madeCells #[.int .u16 0] n = ((List.replicate n (0 : Int)).map (Value.int .u16)).toArray := by
  apply Array.ext
  · simp [madeCells]
  ·
   intro i h1 h2
   simp [madeCells, Nat.mod_one]
 rw [e] at this ⊢
 exact this
theorem BlkN.own (h : BlkN w g l) {B : Nat} (hB : B ≤ g) (hl : l.length ≤ maxLen) : OwnN B w (some ⟨g, 0, none⟩) l.length l := by
 refine ⟨by rw [flatMap_len natC_len], .inr ⟨g, l.length, _, rfl, hB, h, Nat.le_refl _, hl, by simp, ?_⟩⟩
 rw [natC_map]
 simp only [Nat.mul_one]
 exact List.take_of_length_le (by simp)
theorem BlkN.readsV (h : BlkN w g l) {B : Nat} {V : World} (hB : B ≤ g) (hV : New B w V) (hs : U16 l) {c : Nat} (hc : l.length ≤ c) (hm : c ≤ maxLen) : NatR V (some ⟨g, 0, none⟩) c l :=
 ⟨hc, hm, fun k x hx => ⟨g, 0, rfl, by simpa using hV _ _ (by simpa using hB) (h.cell hx), u16_wf (hs x (List.mem_of_getElem? hx))⟩⟩
end
/-- 'make(api.Nat, n)' -/
theorem run_make_nat (k : IntKind) (n : Nat) (hn : n ≤ 16777216) (w : World) :
  (Instr.makeSlice 39 (.int k (n : Int)) (.int k (n : Int))).run Tryz.prog w = .ok (.slice (some ⟨w.heap.size, 0, none⟩) n n) (w.alloc (.cells (madeCells #[.int .u16 0] n) 205)) :=
 run_make_row' 39 205 (.int .u16 0) 2 Tryz.underlying39 infoN rfl k k n (by omega) (by omega) w

/-- v is a slice of the limbs l that a call has made from block B on: it reads in each world that holds what was made -/
def NewN (l : List Int) (B : Nat) (w : World) (v : Value) : Prop := ∃ a c, v = .slice a l.length c ∧ ∀ V, New B w V → NatR V a c l
theorem NewN.own {l : List Int} {B : Nat} {w : World} {a : Option Addr} {c : Nat} (h : OwnN B w a c l) (hs : U16 l) : NewN l B w (.slice a l.length c) := ⟨a, c, rfl, fun _ hn => h.readsV hn hs⟩
/-- what a call gives that makes the limbs l -/
def RetN (l : List Int) (w : World) (e : Ending) (w' : World) : Prop := ∃ a c, e = .returned (.slice a l.length c) ∧ (∀ V, New w.heap.size w' V → NatR V a c l) ∧ Below w.heap.size w w'
theorem RetN.mk {l : List Int} {w w' : World} {v : Value} (h : NewN l w.heap.size w' v) (hb : Below w.heap.size w w') : RetN l w (.returned v) w' := by
 obtain ⟨a, c, rfl, hV⟩ := h
 exact ⟨a, c, rfl, hV, hb⟩
theorem RetN.own {l L : List Int} {w w' : World} {a : Option Addr} {c n : Nat} (h : OwnN w.heap.size w' a c l) (hs : U16 l) (hb : Below w.heap.size w w') (hL : L = l) (hn : n = l.length) : RetN L w (.returned (.slice a n c)) w' := by
 subst hL; subst hn; exact RetN.mk (NewN.own h hs) hb
end Go.Proofs.YtaihkpjbnkgmlaaGreat

/- Leading zeros struck off without copying; Euclid's steps. No function of the program in sight. -/
namespace Go.Proofs.YtaihkpjbnkgmlaaGreat

theorem trim_take {l : List Int} (h : U16 l) : ∀ n, n ≤ l.length → val (l.drop n) = 0 → ∃ k, k ≤ n ∧ limbs (val l) = l.take k
 | 0, _, hv => ⟨0, Nat.le_refl _, by rw [List.drop_zero] at hv; rw [hv, limbs_zero, List.take_zero]⟩
 | n + 1, hn, hv => by
  obtain ⟨x, hx⟩ := get_of_lt (xs := l) (k := n) (by omega)
  by_cases hx0 : x = 0
  ·
   obtain ⟨k, hk, e⟩ := trim_take h n (by omega) (by rw [val_drop hx, hv, hx0]; rfl)
   exact ⟨k, by omega, e⟩
  ·
   refine ⟨n + 1, Nat.le_refl _, limbs_cut h hv (fun y _ hy => ?_) hn⟩
   rw [Nat.add_sub_cancel, hx] at hy
   injection hy with hy
   rw [← hy]
   exact hx0
theorem trim_some {l : List Int} (h : U16 l) : ∃ k, k ≤ l.length ∧ limbs (val l) = l.take k := trim_take h l.length (Nat.le_refl _) (by rw [List.drop_length]; rfl)
/-- what is left when the zeros are struck off lies where it lay -/
theorem NatR.trim {w : World} {a : Option Addr} {c : Nat} {l : List Int} (h : NatR w a c l) : NatR w a c (limbs (val l)) := by
 obtain ⟨k, _, e⟩ := trim_some h.u16
 rw [e]
 exact h.take k
/-- the loop of trim: the limbs from n on are zero -/
theorem trim_more {l : List Int} {n : Nat} {x : Int} (hx : l[n]? = some x) (h0 : x = 0) (hv : val (l.drop (n + 1)) = 0) : val (l.drop n) = 0 := by
 rw [val_drop hx, hv, h0]; rfl
theorem trim_stop {l : List Int} (h : U16 l) {n : Nat} {x : Int} (hx : l[n]? = some x) (h0 : x ≠ 0) (hv : val (l.drop (n + 1)) = 0) : limbs (val l) = l.take (n + 1) := by
 refine limbs_cut h hv (fun y _ hy => ?_) (lt_of_get hx)
 rw [Nat.add_sub_cancel, hx] at hy
 injection hy with hy
 rw [← hy]
 exact h0
theorem trim_zero {l : List Int} (hv : val (l.drop 0) = 0) : limbs (val l) = l.take 0 := by
 rw [List.drop_zero] at hv
 rw [hv, limbs_zero, List.take_zero]
/-- a number of at most four limbs -/
theorem small_iff {n : Nat} : (limbs n).length ≤ 4 ↔ n < 18446744073709551616 := by
 constructor
 ·
  intro h
  have h1 := lt_pow_limbs n
  have h2 : 65536 ^ (limbs n).length ≤ 65536 ^ 4 := Nat.pow_le_pow_right (by omega) h
  have h3 : (65536 : Nat) ^ 4 = 18446744073709551616 := by decide
  omega
 ·
  intro h
  exact limbs_len_le (by rw [show (65536 : Nat) ^ 4 = 18446744073709551616 by decide]; exact h)
/-- a limb is put above what lies below it -/
theorem uint_or {n x i : Nat} (h : n < 65536 ^ i) : n ||| x * 65536 ^ i = n + 65536 ^ i * x := by
 have e : (65536 : Nat) ^ i = 2 ^ (16 * i) := by rw [Nat.pow_mul]
 rw [e] at h ⊢
 rw [Nat.or_comm, Nat.mul_comm x, ← Nat.two_pow_add_eq_or_of_lt h, Nat.add_comm]
end Go.Proofs.YtaihkpjbnkgmlaaGreat

/- Walks: the program's natural numbers: trim, Norm, Of. -/
namespace Go.Proofs.YtaihkpjbnkgmlaaGreat
open Go.RowKit

set_option maxHeartbeats 1000000 in
theorem trim_any (l : List Int) (a : Option Addr) (c : Nat) (w : World) (h : NatR w a c l) :
  Calls Tryz.prog 257 #[.slice a l.length c] w fun e w' => e = .returned (.slice a (limbs (val l)).length c) ∧ w = w' := by
 have H := Lib.hid h
 have hlen := SlR.len h
 have hcap := h.1
 have hcap2 := h.2.1
 unfold maxLen at hcap2
 obtain ⟨R, hR⟩ : ∃ q, (limbs (val l)).length = q := ⟨_, rfl⟩
 rw [hR]
 have HR := Lib.hid hR
 clear h hR
 go_enter Tryz.func257, Tryz.ntmps257
 go_wp2
 obtain ⟨wo, rfl⟩ : ∃ wo : World, wo = w := ⟨_, rfl⟩
 go_loopg [3] l.length (fun n q wr => n ≤ l.length ∧ q = .int .i64 n ∧ wo = wr ∧ Hid (val (l.drop n) = 0))
 case atStart => exact ⟨Nat.le_refl _, rfl, rfl, by simp [Hid, val]⟩
 case round =>
  obtain ⟨hn, rfl, rfl, hv⟩ := hrel
  by_cases h0 : gk = 0
  ·
   subst h0
   have hr : R = 0 := by rw [← HR.out, trim_zero hv.out]; simp
   subst hr
   have hzc : (0 : Int) ≤ (c : Int) := by omega
   have hz1 : ¬ ((0 : Int) < ((0 : Nat) : Int)) := by omega
   go_wp2
   go_ret
   exact ⟨rfl, rfl⟩
  ·
   obtain ⟨m, rfl⟩ : ∃ m, gk = m + 1 := ⟨gk - 1, by omega⟩
   obtain ⟨x, hx⟩ := get_of_lt (xs := l) (k := m) (by omega)
   obtain ⟨b, off, rfl, hc⟩ := H.out.cell hx
   have e1 : (((m + 1 : Nat) : Int)) = (m : Int) + 1 := by omega
   rw [e1]
   have hml : m < l.length := by omega
   have HX := Lib.hid hx
   by_cases hx0 : x = 0
   ·
    have hxb : (x == 0) = true := by simpa using hx0
    have hv2 := Lib.hid (trim_more HX.out hx0 hv.out)
    clear hx0 hx hv e1
    go_wp2
    go_roundg m
    case rel => exact ⟨by omega, by first | rfl | go_num, rfl, hv2.out⟩
    case measure => omega
   ·
    have hxb : (x == 0) = false := by simpa using hx0
    have hr : R = m + 1 := by rw [← HR.out, trim_stop H.out.u16 HX.out hx0 hv.out, List.length_take]; omega
    subst hr
    have hmc : (m : Int) + 1 ≤ (c : Int) := by omega
    clear hx0 hx hv e1
    go_wp2
    go_ret
    exact ⟨rfl, rfl⟩

theorem sizeN : (Tryz.prog.info? 205).map (·.size) = some 1 := by kernel_rfl
set_option maxRecDepth 100000 in
set_option maxHeartbeats 1000000 in
theorem norm_any (l : List Int) (a : Option Addr) (c : Nat) (w : World) (h : NatR w a c l) (hl : l.length ≤ 16777216) :
  Calls Tryz.prog 187 #[.slice a l.length c] w (RetN (limbs (val l)) w) := by
 have CT := trim_any l a c w h
 have hT := h.trim
 have hlT : (limbs (val l)).length ≤ 16777216 := by have := limbs_len_val h.u16; omega
 have huT := limbs_u16 (val l)
 revert CT hT hlT huT
 generalize limbs (val l) = T
 intro CT hT hlT huT
 replace CT := Lib.hid CT
 clear h
 by_cases h0 : T.length = 0
 ·
  obtain rfl : T = [] := List.length_eq_zero_iff.1 h0
  clear h0 hT
  go_enter Tryz.func187, Tryz.ntmps187
  go_wp2_with fail
  refine CT.out.mono ?_
  rintro e w1 ⟨rfl, rfl⟩
  go_wp2
  go_ret
  exact ⟨none, 0, rfl, fun _ _ => SlR.nil, Below.refl _ _⟩
 ·
  obtain ⟨x, hx⟩ := get_of_lt (xs := T) (k := 0) (by omega)
  obtain ⟨b, off, rfl, _⟩ := hT.cell hx
  have HT := Lib.hid hT
  have hmk := run_make_nat .i64 T.length hlT w
  have h0i : ((T.length : Int) == 0) = false := by rw [beq_eq_false_iff_ne]; omega
  clear hx hT h0
  go_enter Tryz.func187, Tryz.ntmps187
  go_wp2_with fail
  refine CT.out.mono ?_
  rintro e w1 ⟨rfl, rfl⟩
  have hg := Blk.new w 205 (madeCells #[.int .u16 0] T.length)
  have hms : (madeCells #[.int .u16 0] T.length).size = T.length := by simp [madeCells]
  have hsrc : ∀ j v, (T.map (Value.int .u16))[j]? = some v → (w.alloc (.cells (madeCells #[.int .u16 0] T.length) 205)).cell? ((⟨b, off, none⟩ : Addr).add j) = some v := fun j v hv => by
   rw [List.getElem?_map] at hv
   obtain ⟨y, hy, rfl⟩ := Option.map_eq_some_iff.1 hv
   obtain ⟨b2, off2, e2, hc2⟩ := HT.out.cell hy
   injection e2 with e2
   injection e2 with e3 e4
   subst e3
   subst e4
   rw [Addr.add_lit]
   exact Ext.alloc (Ext.refl w) _ _ _ hc2
  have HG := Lib.hid hg
  have HSRC := Lib.hid hsrc
  have HMS := Lib.hid hms
  have HMK := Lib.hid hmk
  clear hg hsrc hms
  have hcp := run_copy_row (P := Tryz.prog) (w.alloc (.cells (madeCells #[.int .u16 0] T.length) 205)) 39 39 3 205 w.heap.size 0 T.length T.length ⟨b, off, none⟩ T.length c _ 205 (T.map (Value.int .u16)) Tryz.underlying39 sizeN HG.out (by simp) HSRC.out (by rw [HMS.out]; simp) (by simp [Value.oneCell'])
  have hX : (madeCells #[.int .u16 0] T.length).toList.take 0 ++ T.map (Value.int .u16) ++ (madeCells #[.int .u16 0] T.length).toList.drop (0 + (T.map (Value.int .u16)).length) = T.map (Value.int .u16) := by
   rw [List.take_zero, List.nil_append, List.drop_eq_nil_of_le (by rw [Array.length_toList, HMS.out]; simp), List.append_nil]
  rw [hX] at hcp
  have hF : BlkN ((w.alloc (.cells (madeCells #[.int .u16 0] T.length) 205)).setRow w.heap.size (T.map (Value.int .u16)).toArray) w.heap.size T := setRow_heap _ _ _ _ _ _ HG.out
  have hB : Below w.heap.size w ((w.alloc (.cells (madeCells #[.int .u16 0] T.length) 205)).setRow w.heap.size (T.map (Value.int .u16)).toArray) := below_setRow ((Below.refl _ _).alloc (Nat.le_refl _) _) (Nat.le_refl _) _
  revert hF hB hcp
  generalize (w.alloc (.cells (madeCells #[.int .u16 0] T.length) 205)).setRow w.heap.size (T.map (Value.int .u16)).toArray = w2
  intro hcp hF hB
  go_wp2
  go_ret
  exact ⟨_, _, rfl, fun V hV => hF.readsV (Nat.le_refl _) hV huT (Nat.le_refl _) (by unfold maxLen; omega), hB⟩
end Go.Proofs.YtaihkpjbnkgmlaaGreat

/- A world in which only one block that was there may have turned. No function of the program in sight. -/
namespace Go.Proofs.YtaihkpjbnkgmlaaGreat
open Go.RowKit
section
variable {w w' w'' : World} {g : Nat}
theorem but_refl (w : World) (g : Nat) : w.grownBy w (some g) := World.grownBy.refl _ _
theorem but_alloc (h : w.grownBy w' (some g)) (o : Obj) : w.grownBy (w'.alloc o) (some g) := h.trans (World.grownBy_alloc _ _ _)
theorem but_drew (h : w.grownBy w' (some g)) : w.grownBy w'.drew (some g) := ⟨h.os, h.tape, h.output, h.size, h.block⟩
theorem but_set (h : w.grownBy w' (some g)) (i : Nat) (u : Value) : w.grownBy (w'.setCell ⟨g, i, none⟩ u) (some g) :=
 h.trans ⟨rfl, rfl, rfl, by simp [World.setCell], fun k _ hk => Below.heap_setCell _ _ _ _ (fun e => hk (by simp at e; rw [e]))⟩
theorem but_set_new (h : w.grownBy w' (some g)) {p : Addr} (hp : w.heap.size ≤ p.block) (u : Value) : w.grownBy (w'.setCell p u) (some g) :=
 ⟨h.os, h.tape, h.output, by have := h.size; simpa [World.setCell] using this, fun k hk hne => (Below.heap_setCell _ _ _ _ (by omega)).trans (h.block k hk hne)⟩
theorem but_below (h : w.grownBy w' (some g)) (hb : Below w'.heap.size w' w'') : w.grownBy w'' (some g) :=
 ⟨hb.os.trans h.os, hb.tape.trans h.tape, hb.output.trans h.output, Nat.le_trans h.size hb.size, fun k hk hne => (hb.block k (Nat.lt_of_lt_of_le hk h.size)).trans (h.block k hk hne)⟩
theorem below_but {B : Nat} {w0 : World} (hb : Below B w0 w) (h : w.grownBy w' (some g)) (hg : B ≤ g) (hB : B ≤ w.heap.size) : Below B w0 w' := hb.grown h hB (fun k hk => by injection hk with hk; omega)
end
end Go.Proofs.YtaihkpjbnkgmlaaGreat

/- Rows of limbs in blocks that a call writes itself: the first cells are the limbs, behind them lies anything. No function of the program in sight. -/
namespace Go.Proofs.YtaihkpjbnkgmlaaGreat
open Go.RowKit

/-- block g is a row of these limbs, and behind them the cells r -/
def RowN (w : World) (g : Nat) (l : List Int) (r : List Value) : Prop := Blk w g 205 (l.map (Value.int .u16) ++ r).toArray
section
variable {w w' : World} {g : Nat} {l : List Int} {r : List Value}
theorem RowN.lt (h : RowN w g l r) : g < w.heap.size := Blk.lt h
theorem RowN.cell (h : RowN w g l r) {i : Nat} {x : Int} (hx : l[i]? = some x) : w.cell? ⟨g, i, none⟩ = some (.int .u16 x) := by
 have hi := lt_of_get hx
 rw [Blk.cell h i]
 simp only [List.getElem?_toArray]
 rw [List.getElem?_append_left (by simpa using hi), List.getElem?_map, hx]
 rfl
theorem RowN.frozen (h : RowN w g l r) (i : Nat) : w.frozen? ⟨g, i, none⟩ = false := Blk.frozen h i
theorem RowN.set_ (h : RowN w g l r) {i : Nat} (hi : i < l.length) (x : Int) : RowN (w.setCell ⟨g, i, none⟩ (.int .u16 x)) g (l.set i x) r := by
 have := Blk.set_ h i (.int .u16 x)
 unfold RowN
 rw [List.setIfInBounds_toArray, List.set_append_left _ _ (by simpa using hi), ← List.map_set] at this
 exact this
theorem RowN.below (h : RowN w g l r) (hb : Below w.heap.size w w') : RowN w' g l r := Blk.below' h hb
theorem RowN.alloc (h : RowN w g l r) (o : Obj) : RowN (w.alloc o) g l r := Blk.alloc h o
theorem RowN.far (h : RowN w g l r) {p : Addr} (hp : g ≠ p.block) (u : Value) : RowN (w.setCell p u) g l r := Blk.far h hp u
theorem RowN.cut (h : RowN w g l r) (k : Nat) : RowN w g (l.take k) ((l.drop k).map (Value.int .u16) ++ r) := by
 unfold RowN at h ⊢
 rw [← List.append_assoc, ← List.map_append, List.take_append_drop]
 exact h
theorem RowN.of (h : BlkN w g l) : RowN w g l [] := by
 unfold RowN
 rw [List.append_nil]
 exact h
/-- the row's first limbs are owned -/
theorem RowN.own (h : RowN w g l r) {B : Nat} (hB : B ≤ g) {c : Nat} (hc : c = l.length + r.length) (hm : c ≤ maxLen) (k : Nat) (hk : k ≤ l.length) : OwnN B w (some ⟨g, 0, none⟩) c (l.take k) := by
 subst hc
 have hl : (l.take k).length = k := by simp; omega
 refine ⟨by rw [flatMap_len natC_len], .inr ⟨g, _, _, rfl, hB, h, by omega, hm, by simp, ?_⟩⟩
 rw [natC_map, hl, Nat.mul_one, List.take_append_of_le_length (by simpa using hk), List.map_take]
/-- an owned row lies in a block of its own -/
theorem own_row {B : Nat} {a : Option Addr} {c : Nat} (h : OwnN B w a c l) (h0 : 0 < l.length) : ∃ g r, a = some ⟨g, 0, none⟩ ∧ B ≤ g ∧ c = l.length + r.length ∧ RowN w g l r := by
 rcases h.2 with ⟨_, hn⟩ | ⟨g, cap, cur, e, hg, hh, hc, hm, hs, ht⟩
 · omega
 ·
  injection e with e1 e2 e3
  subst e1
  subst e3
  refine ⟨g, cur.toList.drop l.length, rfl, hg, by simp only [List.length_drop, Array.length_toList, hs]; omega, ?_⟩
  unfold RowN Blk
  rw [hh]
  rw [natC_map, Nat.mul_one] at ht
  rw [← ht, List.take_append_drop]
theorem RowN.readsAt (h : RowN w g l r) (hs : U16 l) (j k c : Nat) (hk : k ≤ c) (hc : c ≤ maxLen) : NatR w (some ⟨g, j, none⟩) c ((l.drop j).take k) := by
 refine ⟨by simp; omega, hc, fun i x hx => ⟨g, j, rfl, ?_⟩⟩
 rw [List.getElem?_take] at hx
 split at hx
 ·
  rw [List.getElem?_drop] at hx
  exact ⟨by simpa using h.cell hx, u16_wf (hs x (List.mem_of_getElem? hx))⟩
 · cases hx
theorem RowN.readsV (h : RowN w g l r) {B : Nat} {V : World} (hB : B ≤ g) (hV : New B w V) (hs : U16 l) {c : Nat} (hc : l.length ≤ c) (hm : c ≤ maxLen) : NatR V (some ⟨g, 0, none⟩) c l :=
 ⟨hc, hm, fun k x hx => ⟨g, 0, rfl, by simpa using hV _ _ (by simpa using hB) (h.cell hx), u16_wf (hs x (List.mem_of_getElem? hx))⟩⟩
/-- limbs that lie in another block stay -/
theorem NatR.other {a : Option Addr} {c : Nat} (h : NatR w a c l) (hg : w.grownBy w' (some g)) (hne : ∀ p, a = some p → p.block ≠ g) : NatR w' a c l := by
 refine ⟨h.1, h.2.1, fun k x hx => ?_⟩
 obtain ⟨b, off, rfl, hc, hw⟩ := h.2.2 k x hx
 exact ⟨b, off, rfl, hg.cell hc (fun e => hne _ rfl (by injection e)), hw⟩
end
/-- 'make(api.Nat, n, c)' -/
theorem run_make_nat2 (k : IntKind) (n c : Nat) (hn : n ≤ c) (hc : c ≤ 16777216) (w : World) :
  (Instr.makeSlice 39 (.int k (n : Int)) (.int k (c : Int))).run Tryz.prog w = .ok (.slice (some ⟨w.heap.size, 0, none⟩) n c) (w.alloc (.cells (madeCells #[.int .u16 0] c) 205)) := by
 obtain ⟨i, hi, hzz⟩ := Option.map_eq_some_iff.1 infoN
 simp only [Prod.mk.injEq] at hzz
 obtain ⟨hz, hs, hb⟩ := hzz
 have hr := run_make (P := Tryz.prog) w 39 205 i (.int .u16 0) Tryz.underlying39 hi hz k k n c (by omega) (by omega) (by rw [hb]; omega) (by omega)
 simp only [Int.toNat_natCast, hs, Nat.mul_one] at hr
 exact hr
end Go.Proofs.YtaihkpjbnkgmlaaGreat

/- Walks: the program's natural numbers: Of, Uint. -/
namespace Go.Proofs.YtaihkpjbnkgmlaaGreat
open Go.RowKit

theorem uint_bits {n y q z : Nat} (c : Nat) (hn : n < c) (hy : y ≤ 65535) (hc : c ≤ 281474976710656) (hz : n ||| y * c = q) (e : (z : Int) = (y : Int) * (c : Int)) : bits .or .u64 (n : Int) (z : Int) = (q : Int) := by
 have h1 : z = y * c := by
  have : ((z : Nat) : Int) = ((y * c : Nat) : Int) := by rw [e]; simp
  omega
 subst h1
 have h2 : y * c ≤ 65535 * 281474976710656 := Nat.mul_le_mul hy hc
 rw [u64_or_nat _ _ (by omega) (by omega), hz]
theorem wrap16 (n : Nat) : IntKind.u16.wrap (n : Int) = ((n % 65536 : Nat) : Int) := by simp [IntKind.wrap, IntKind.bits, IntKind.signed]
theorem wrap32u (n : Nat) : IntKind.u32.wrap (n : Int) = ((n % 4294967296 : Nat) : Int) := by simp [IntKind.wrap, IntKind.bits, IntKind.signed]
theorem wrap64u (n : Nat) : IntKind.u64.wrap (n : Int) = ((n % 18446744073709551616 : Nat) : Int) := by simp [IntKind.wrap, IntKind.bits, IntKind.signed]
set_option maxHeartbeats 1000000 in
theorem of_any (n : Nat) (w : World) (hn : n < 18446744073709551616) :
  Calls Tryz.prog 167 #[.int .u64 n] w (RetN (limbs n) w) := by
 go_enter Tryz.func167, Tryz.ntmps167
 go_wp2
 go_loopw [0, 3] (fun i s wr => ∃ (m : Nat) (l : List Int) (a : Option Addr) (c : Nat), m ≤ n ∧ i = .int .u64 m ∧ s = .slice a l.length c ∧ OwnN w.heap.size wr a c l ∧ U16 l ∧ l.length ≤ 1000 ∧ Below w.heap.size w wr ∧ Hid (limbs n = l ++ limbs m)) (fun i _ _ => (intOf i).toNat)
 case atStart => exact ⟨n, [], none, 0, Nat.le_refl _, rfl, rfl, Own.nil, U16.nil, by simp, Below.refl _ _, rfl⟩
 case round =>
  obtain ⟨m, l, a, c, hm, rfl, rfl, ho, hU, hlen, hb, hr⟩ := hrel
  have HO := Lib.hid ho
  clear ho
  by_cases h0 : m = 0
  ·
   subst h0
   have HR : limbs n = l := by have := hr.out; rw [limbs_zero] at this; simpa using this
   replace HR := Lib.hid HR
   go_wp2
   go_ret
   exact RetN.own HO.out hU hb HR.out rfl
  ·
   have hgt : decide ((0 : Int) < (m : Int)) = true := by simp; omega
   have hs : limbs m = ((m % 65536 : Nat) : Int) :: limbs (m / 65536) := limbs_pos h0
   have hr2 : limbs n = (l ++ [((m % 65536 : Nat) : Int)]) ++ limbs (m / 65536) := by rw [hr.out, hs]; simp
   have HR := Lib.hid hr2
   clear hs hr2
   have hlt : m < 18446744073709551616 := by omega
   have hm1 : ((m : Int) % 65536) = ((m % 65536 : Nat) : Int) := by omega
   have hm2 : ((m : Int) / 65536) = ((m / 65536 : Nat) : Int) := by omega
   have hw := wrap16 m
   have HM1 := Lib.hid hm1
   have HM2 := Lib.hid hm2
   clear hm1 hm2
   go_wp2_with (at_builtin; go_must (refine append_nat rfl (.tmp 8) (.tmp 11) rfl a c rfl (HO.out.alloc _) ((m % 65536 : Nat) : Int) wr.heap.size 1 rfl (by simp <;> omega) (l ++ [((m % 65536 : Nat) : Int)]) rfl (by simp; omega) (by have := hb.size; simp; omega) ?_); intro a2 c2 w2 ho2 hg2 hx2)
   go_roundw
   case rel =>
    have hb1 : Below w.heap.size w w2 := below_append' (hb.alloc hb.size _) (HO.out.alloc _) hg2
    have hl4 : (l ++ [((m % 65536 : Nat) : Int)]).length ≤ 1000 := by
     have h4 : (limbs n).length ≤ 4 := limbs_len_le (by simpa using hn)
     rw [HR.out] at h4
     simp only [List.length_append] at h4 ⊢
     omega
    exact ⟨m / 65536, l ++ [((m % 65536 : Nat) : Int)], a2, c2, by omega, by rw [HM2.out], by simp, ho2, hU.app (U16.cons (by omega) U16.nil), hl4, hb1, HR.out⟩
   case measure => rw [HM2.out]; simp [intOf]; omega

set_option maxHeartbeats 1000000 in
theorem uint_small (l : List Int) (n : Nat) (a : Option Addr) (c : Nat) (w : World) (h : NatR w a c l) (hn : val l = n) (hs : n < 18446744073709551616) :
  Calls Tryz.prog 260 #[.slice a l.length c] w fun e w' => e = .returned (.tuple #[.int .u64 n, .bool true]) ∧ w = w' := by
 have CT := trim_any l a c w h
 have hT := h.trim
 have hu := limbs_u16 (val l)
 rw [hn] at CT hT hu
 have hlen : (limbs n).length ≤ 4 := small_iff.2 hs
 have hvT := val_limbs n
 revert CT hT hlen hu hvT
 generalize limbs n = T
 intro CT hT hu hlen hvT
 replace CT := Lib.hid CT
 have HT := Lib.hid hT
 have HV := Lib.hid hvT
 clear h hn hT hvT
 go_enter Tryz.func260, Tryz.ntmps260
 go_wp2_with fail
 refine CT.out.mono ?_
 rintro e w1 ⟨rfl, rfl⟩
 go_wp2
 obtain ⟨wo, rfl⟩ : ∃ wo : World, wo = w := ⟨_, rfl⟩
 go_loopg [4, 5, 6, 14] T.length (fun g x _ _ i wr => ∃ k : Nat, k + g = T.length ∧ i = .int .i64 k ∧ wo = wr ∧ x = .int .u64 (val (T.take k) : Nat))
 case atStart => exact ⟨0, by omega, rfl, rfl, by simp [val]⟩
 case round =>
  obtain ⟨k, hkg, rfl, rfl, rfl⟩ := hrel
  have HKG := Lib.hid hkg
  clear hkg
  by_cases hlt : k < T.length
  ·
   obtain ⟨x, hx⟩ := get_of_lt hlt
   obtain ⟨b, off, rfl, hc⟩ := HT.out.cell hx
   obtain ⟨hx0, hx1⟩ := hu.get hx
   obtain ⟨y, rfl⟩ : ∃ y : Nat, x = (y : Int) := ⟨x.toNat, by omega⟩
   have hvt := val_take hx
   have hlt2 : val (T.take k) < 65536 ^ k := by
    have := val_lt (hu.take k)
    have e : (T.take k).length = k := by simp; omega
    rwa [e] at this
   rw [Int.toNat_natCast] at hvt
   have hor := uint_or (x := y) hlt2
   rw [← hvt] at hor
   have hkc : k = 0 ∨ k = 1 ∨ k = 2 ∨ k = 3 := by omega
   have HOR := Lib.hid hor
   revert hlt2
   generalize val (T.take k) = p at *
   intro hlt2
   clear hvt hor hx
   rcases hkc with rfl | rfl | rfl | rfl
   ·
    rw [Nat.add_zero] at hc
    go_wp2
    go_roundg (gk - 1)
    case rel => exact ⟨1, by have := HKG.out; omega, by go_num, rfl, val_int (uint_bits (z := y) (y := y) 1 (by simpa using hlt2) (by omega) (by omega) (by have h := HOR.out; rw [Nat.pow_zero] at h; exact h) (by simp))⟩
    case measure => have := HKG.out; omega
   ·
    go_wp2
    go_roundg (gk - 1)
    case rel => exact ⟨2, by have := HKG.out; omega, by go_num, rfl, val_int (uint_bits (z := y * 65536) 65536 (by simpa using hlt2) (by omega) (by omega) HOR.out (by simp))⟩
    case measure => have := HKG.out; omega
   ·
    go_wp2
    go_roundg (gk - 1)
    case rel => exact ⟨3, by have := HKG.out; omega, by go_num, rfl, val_int (uint_bits (z := y * 4294967296) 4294967296 (by simpa using hlt2) (by omega) (by omega) HOR.out (by simp))⟩
    case measure => have := HKG.out; omega
   ·
    go_wp2
    go_roundg (gk - 1)
    case rel => exact ⟨4, by have := HKG.out; omega, by go_num, rfl, val_int (uint_bits (z := y * 281474976710656) 281474976710656 (by simpa using hlt2) (by omega) (by omega) HOR.out (by simp))⟩
    case measure => have := HKG.out; omega
  ·
   have hr : val (T.take k) = n := by rw [take_all hlt]; exact HV.out
   have HR := Lib.hid hr
   clear hr
   go_wp2
   go_ret2
   refine ⟨?_, rfl⟩
   rw [HR.out]
   rfl
set_option maxHeartbeats 1000000 in
theorem uint_big (l : List Int) (n : Nat) (a : Option Addr) (c : Nat) (w : World) (h : NatR w a c l) (hn : val l = n) (hs : ¬ n < 18446744073709551616) :
  Calls Tryz.prog 260 #[.slice a l.length c] w fun e w' => e = .returned (.tuple #[.int .u64 0, .bool false]) ∧ w = w' := by
 have CT := trim_any l a c w h
 rw [hn] at CT
 have hlen : ¬ (limbs n).length ≤ 4 := fun e => hs (small_iff.1 e)
 have hmx := h.len
 have hle := limbs_len_val h.u16
 rw [hn] at hle
 revert CT hlen hle
 generalize limbs n = T
 intro CT hlen hle
 replace CT := Lib.hid CT
 clear h hn hs
 go_enter Tryz.func260, Tryz.ntmps260
 go_wp2_with fail
 refine CT.out.mono ?_
 rintro e w1 ⟨rfl, rfl⟩
 go_wp2
 go_ret2
 exact ⟨rfl, rfl⟩
end Go.Proofs.YtaihkpjbnkgmlaaGreat
