/- Pruned figures as lists, and steps in slices that a call makes itself. -/
import Derived.Test.YtmlldjcbijoheaaNeedsP
import Derived.Test.YtmlldjcbijoheaaMade
namespace Go.Proofs.Ytmlldjcbijoheaa
open Go.RowKit

/-- the place of n in a list whose first place is i, -1 if there is none -/
def placeFrom (n : Int) (i : Nat) : List Int → Int
  | [] => -1
  | x :: r => if x = n then (i : Int) else placeFrom n (i + 1) r
def place (l : List Int) (n : Int) : Int := placeFrom n 0 l
def placed (l ns : List Int) : List Int := ns.map (place l)
theorem placeFrom_at {l : List Int} {n x : Int} {k : Nat} (h : l[k]? = some x) : placeFrom n k (l.drop k) = if x = n then (k : Int) else placeFrom n (k + 1) (l.drop (k + 1)) := by
  have hk := lt_of_get h
  rw [List.drop_eq_getElem_cons hk]
  have : l[k] = x := by rw [List.getElem?_eq_getElem hk] at h; exact Option.some.inj h
  rw [this, placeFrom]
theorem placeFrom_end {l : List Int} {n : Int} {k : Nat} (h : ¬ k < l.length) : placeFrom n k (l.drop k) = -1 := by rw [List.drop_eq_nil_of_le (by omega)]; rfl
theorem placeFrom_in (n : Int) (l : List Int) (i : Nat) : -1 ≤ placeFrom n i l ∧ placeFrom n i l < i + l.length + 1 := by
  induction l generalizing i with
  | nil => simp [placeFrom]; omega
  | cons x l ih =>
    unfold placeFrom
    have := ih (i + 1)
    split
    · simp; omega
    · simp only [List.length_cons]; omega
theorem placed_in (l ns : List Int) (hl : l.length ≤ 1000000) : ∀ x ∈ placed l ns, InInt x := fun x hx => by
  obtain ⟨n, _, rfl⟩ := List.mem_map.1 hx
  have := placeFrom_in n l 0
  unfold place
  constructor <;> omega
theorem placed_take {l ns : List Int} {n : Int} {k : Nat} (h : ns[k]? = some n) : placed l (ns.take (k + 1)) = placed l (ns.take k) ++ [place l n] := by
  rw [take_more h]; simp [placed]

def Step.with (s : Step) (qs : List Int) : Step := { s with args := qs }
def Fct.with (s : Fct) (qs : List Int) : Fct := { s with args := qs }
def prunedSteps (steps : List Step) (L : List Int) (m : List Int) : List Step := m.filterMap fun i => steps[i.toNat]?.map fun s => s.with (placed L s.args)
def pruned (f : Fig) (g : Fct) : Fig := ⟨prunedSteps f.steps (needs f.steps g.args) (needs f.steps g.args), [g.with (placed (needs f.steps g.args) g.args)]⟩
theorem prunedSteps_take {steps : List Step} {L m : List Int} {k : Nat} {x : Int} {s : Step} (h : m[k]? = some x) (hs : steps[x.toNat]? = some s) :
    prunedSteps steps L (m.take (k + 1)) = prunedSteps steps L (m.take k) ++ [s.with (placed L s.args)] := by
  rw [take_more h]; simp [prunedSteps, hs]

/-- a step with the addresses of its slices -/
structure SP where
  s : Step
  p : RA
def SP.cs (q : SP) : List Value := [.int .i64 q.s.kind, .string q.s.point, .slice q.p.aa q.s.args.length q.p.ac, .bool q.s.ratio.neg, .slice q.p.na q.s.ratio.num.length q.p.nc, .slice q.p.da q.s.ratio.den.length q.p.dc]
theorem SP.cs_len (q : SP) : q.cs.length = 6 := rfl
theorem SP.cs_one (q : SP) : ∀ u ∈ q.cs, u.oneCell' = true := by simp [SP.cs, Value.oneCell']
abbrev OwnSt (B : Nat) (w : World) (a : Option Addr) (c : Nat) (l : List SP) : Prop := Own SP.cs 6 82 B w a c l
theorem infoSt : (Try.prog.info? 82).map (fun i => (i.zero, i.size, i.bytes)) = some (some (.agg #[.int .i64 0, .string ⟨#[]⟩, .slice none 0 0, .bool false, .slice none 0 0, .slice none 0 0]), 6, 104) := by kernel_rfl
theorem SP.cells {w : World} {b o : Nat} {q : SP} (h : ∀ j u, q.cs[j]? = some u → w.cell? ⟨b, o + j, none⟩ = some u) : StepC w b o q.p q.s :=
  ⟨by simpa using h 0 _ rfl, h 1 _ rfl, h 2 _ rfl, h 3 _ rfl, h 4 _ rfl, h 5 _ rfl⟩
def SP.R (w : World) (q : SP) : Prop := PartsR w q.p q.s.args q.s.ratio ∧ InInt q.s.kind ∧ q.s.point.size ≤ 9223372036854775807
theorem OwnSt.readsIn {B : Nat} {w V : World} {a : Option Addr} {c : Nat} {l : List SP} (h : OwnSt B w a c l) (hV : New B w V) (hr : ∀ q ∈ l, q.R V) : StepsR V a c (l.map SP.s) :=
  Own.readsIn SP.s SP.cs_len h hV fun _b _o q hq hc => ⟨q.p, SP.cells hc, hr q hq⟩
/-- 'l = append(l, s)', s a step: an operation -/
theorem wp_append_step {B : Nat} {w : World} {l : List SP} {o : Oper} {act : Act} {K : Act → World → Prop} {Q : Exit → Act → World → Prop} (s y : Operand)
    (ho : o.op = .call { callee := .builtin .append, args := #[s, y], argTypes := #[22, 22] })
    (a : Option Addr) (c : Nat) (hs : act.eval s = .slice a l.length c) (hown : OwnSt B w a c l)
    (x : SP) (b c1 : Nat) (hy : act.eval y = .slice (some ⟨b, 0, none⟩) 1 c1) (hcell : ∀ j u, x.cs[j]? = some u → w.cell? ⟨b, j, none⟩ = some u)
    (l2 : List SP) (hl2 : l2 = l ++ [x]) (hlen : l2.length ≤ 16777216) (hB : B ≤ w.heap.size)
    (h : ∀ a' c' w', OwnSt B w' a' c' l2 → w.grownBy w' (Value.ownBlock (.slice a l.length c)) → ((∃ g, a' = some ⟨g, 0, none⟩ ∧ (a = some ⟨g, 0, none⟩ ∨ g = w.heap.size))) →
      K (act.put o.dst (.slice a' l2.length c')) w') : o.wp Try.prog act w K Q :=
  wp_append_1 s y 22 ho Try.underlying22 infoSt rfl (by omega) (by omega) SP.cs_len a c hs hown x (SP.cs_one x) b c1 hy hcell l2 hl2 hlen hB h
theorem append_step {B : Nat} {w : World} {l : List SP} {ops : Array Oper} {rest : List Oper} {o : Oper} {act : Act} {Q : Exit → Act → World → Prop} (hgd : o.guard = none) (s y : Operand)
    (ho : o.op = .call { callee := .builtin .append, args := #[s, y], argTypes := #[22, 22] })
    (a : Option Addr) (c : Nat) (hs : act.eval s = .slice a l.length c) (hown : OwnSt B w a c l)
    (x : SP) (b c1 : Nat) (hy : act.eval y = .slice (some ⟨b, 0, none⟩) 1 c1) (hcell : ∀ j u, x.cs[j]? = some u → w.cell? ⟨b, j, none⟩ = some u)
    (l2 : List SP) (hl2 : l2 = l ++ [x]) (hlen : l2.length ≤ 16777216) (hB : B ≤ w.heap.size)
    (h : ∀ a' c' w', OwnSt B w' a' c' l2 → w.grownBy w' (Value.ownBlock (.slice a l.length c)) → ((∃ g, a' = some ⟨g, 0, none⟩ ∧ (a = some ⟨g, 0, none⟩ ∨ g = w.heap.size))) →
      wpList Try.prog ops Q rest (act.put o.dst (.slice a' l2.length c')) w') : wpList Try.prog ops Q (o :: rest) act w :=
  wpList_append_1 hgd s y 22 ho Try.underlying22 infoSt rfl (by omega) (by omega) SP.cs_len a c hs hown x (SP.cs_one x) b c1 hy hcell l2 hl2 hlen hB h
/-- what a call gives that makes a figure out of what is read in W0, and an error -/
def RetFig (W0 w : World) (g : Fig) (x : Int) (e : Ending) (w' : World) : Prop :=
  ∃ sa sc ga gc, e = .returned (.tuple #[g.val sa sc ga gc, .int .i64 x]) ∧ Below w.heap.size w w' ∧ ∀ V, Ext W0 V → New w.heap.size w' V → FigR V sa sc ga gc g
theorem fct_one {w : World} {b : Nat} {p : RA} {s : Fct} (hc : FctC w b 0 p s) (hp : PartsR w p s.args s.ratio) (hk : InInt s.kind) : FctsR w (some ⟨b, 0, none⟩) 1 [s] := by
  refine ⟨by simp, by simp [maxLen], fun k x hx => ?_⟩
  cases k with
  | zero => simp at hx; subst hx; exact ⟨b, 0, rfl, by simpa using ⟨p, hc, hp, hk⟩⟩
  | succ k => simp at hx
end Go.Proofs.Ytmlldjcbijoheaa
