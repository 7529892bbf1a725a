/- Rows of boxes that a call makes. -/
import Derived.Test.YtaihkpjbnkgmlaaGreatRf32
import Derived.Test.YtaihkpjbnkgmlaaGreatRf34
import Derived.Test.YtaihkpjbnkgmlaaGreatRf1
import Derived.Deep.LoopGhost

/- Rows of boxes that a call makes. -/
namespace Go.Proofs.YtaihkpjbnkgmlaaGreat
open Go.RowKit

abbrev OwnBx (B : Nat) (w : World) (a : Option Addr) (c : Nat) (l : List B4) : Prop := Own B4.cs 12 75 B w a c l
theorem infoBx : (Tryz.prog.info? 75).map (fun i => (i.zero, i.size, i.bytes)) = some (some (.agg #[.bool false, .slice none 0 0, .slice none 0 0, .bool false, .slice none 0 0, .slice none 0 0, .bool false, .slice none 0 0, .slice none 0 0, .bool false, .slice none 0 0, .slice none 0 0]), 12, 224) := by kernel_rfl
/-- 'l = append(l, b)', b a box -/
theorem append_box {B : Nat} {w : World} {l : List B4} {ops : Array Oper} {rest : List Oper} {o : Oper} {act : Act} {Q : Exit → Act → World → Prop} (hgd : o.guard = none) (s y : Operand)
  (ho : o.op = .call { callee := .builtin .append, args := #[s, y], argTypes := #[26, 26] })
  (a : Option Addr) (c : Nat) (hs : act.eval s = .slice a l.length c) (hown : OwnBx B w a c l)
  (x : B4) (b c1 : Nat) (hy : act.eval y = .slice (some ⟨b, 0, none⟩) 1 c1) (hcell : ∀ j u, x.cs[j]? = some u → w.cell? ⟨b, j, none⟩ = some u)
  (l2 : List B4) (hl2 : l2 = l ++ [x]) (hlen : l2.length ≤ 16777216) (hB : B ≤ w.heap.size)
  (h : ∀ a' c' w', OwnBx B w' a' c' l2 → w.grownBy w' (Value.ownBlock (.slice a l.length c)) → ((∃ g, a' = some ⟨g, 0, none⟩ ∧ (a = some ⟨g, 0, none⟩ ∨ g = w.heap.size))) →
   wpList Tryz.prog ops Q rest (act.put o.dst (.slice a' l2.length c')) w') : wpList Tryz.prog ops Q (o :: rest) act w :=
 wpList_append_1 hgd s y 26 ho Tryz.underlying26 infoBx rfl (by omega) (by omega) B4.cs_len a c hs hown x (B4.cs_one x) b c1 hy hcell l2 hl2 hlen hB h
theorem RowB.blk {w : World} {g : Nat} {t : TypeId} {bs : List B4} (h : Blk w g t (bs.flatMap B4.cs).toArray) : RowB w g bs := fun i b hb j u hu => by
 have hj : j < 12 := lt_of_get hu
 rw [h.cell, List.getElem?_toArray, flatMap_at B4.cs_len bs i b j hb hj]
 exact hu
theorem OwnBx.row {B : Nat} {w : World} {a : Option Addr} {c : Nat} {l : List B4} (h : OwnBx B w a c l) (hl : 0 < l.length) : ∃ g, a = some ⟨g, 0, none⟩ ∧ RowB w g l := by
 obtain ⟨x, hx⟩ := get_of_lt hl
 obtain ⟨g, ha, _, _, _⟩ := Own.at_ B4.cs_len h hx
 refine ⟨g, ha, fun i b hb j u hu => ?_⟩
 obtain ⟨g', ha', _, _, hc⟩ := Own.at_ B4.cs_len h hb
 rw [ha] at ha'
 obtain rfl : g = g' := by injection ha' with e; injection e
 exact hc j u hu
theorem len2b {α : Type} {l : List α} (h : l.length = 2) : ∃ a b, l = [a, b] := by
 match l, h with
 | [a, b], _ => exact ⟨a, b, rfl⟩
theorem len3b {α : Type} {l : List α} (h : l.length = 3) : ∃ a b c, l = [a, b, c] := by
 match l, h with
 | [a, b, c], _ => exact ⟨a, b, c, rfl⟩
theorem len4b {α : Type} {l : List α} (h : l.length = 4) : ∃ a b c d, l = [a, b, c, d] := by
 match l, h with
 | [a, b, c, d], _ => exact ⟨a, b, c, d, rfl⟩
theorem len8b {α : Type} {l : List α} (h : l.length = 8) : ∃ a b c d e f g i, l = [a, b, c, d, e, f, g, i] := by
 match l, h with
 | [a, b, c, d, e, f, g, i], _ => exact ⟨a, b, c, d, e, f, g, i, rfl⟩
end Go.Proofs.YtaihkpjbnkgmlaaGreat
