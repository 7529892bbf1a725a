/- The walk of ScopeTells. -/
import Derived.Test.YtmlldjcbijoheaaKs1
import Derived.Test.YtmlldjcbijoheaaRows
import Derived.Test.YtmlldjcbijoheaaKs2
import Derived.Test.YtmlldjcbijoheaaKs11
import Derived.Test.YtmlldjcbijoheaaKs17

/- How an argument that came in is opened: slices of whatever elements, and what they weigh. -/
namespace Go.Proofs.Ytmlldjcbijoheaa
open Go.ChangeShapes Go.WideShapes Go.ChangeAt Go.RowKit

theorem len1 {α : Type} {l : List α} (h : l.length = 1) : ∃ x0, l = [x0] := by
  match l, h with
  | [x0], _ => exact ⟨x0, rfl⟩
theorem len2 {α : Type} {l : List α} (h : l.length = 2) : ∃ x0 x1, l = [x0, x1] := by
  match l, h with
  | [x0, x1], _ => exact ⟨x0, x1, rfl⟩
theorem len3 {α : Type} {l : List α} (h : l.length = 3) : ∃ x0 x1 x2, l = [x0, x1, x2] := by
  match l, h with
  | [x0, x1, x2], _ => exact ⟨x0, x1, x2, rfl⟩
theorem len4 {α : Type} {l : List α} (h : l.length = 4) : ∃ x0 x1 x2 x3, l = [x0, x1, x2, x3] := by
  match l, h with
  | [x0, x1, x2, x3], _ => exact ⟨x0, x1, x2, x3, rfl⟩
theorem len5 {α : Type} {l : List α} (h : l.length = 5) : ∃ x0 x1 x2 x3 x4, l = [x0, x1, x2, x3, x4] := by
  match l, h with
  | [x0, x1, x2, x3, x4], _ => exact ⟨x0, x1, x2, x3, x4, rfl⟩
theorem len6 {α : Type} {l : List α} (h : l.length = 6) : ∃ x0 x1 x2 x3 x4 x5, l = [x0, x1, x2, x3, x4, x5] := by
  match l, h with
  | [x0, x1, x2, x3, x4, x5], _ => exact ⟨x0, x1, x2, x3, x4, x5, rfl⟩
theorem len7 {α : Type} {l : List α} (h : l.length = 7) : ∃ x0 x1 x2 x3 x4 x5 x6, l = [x0, x1, x2, x3, x4, x5, x6] := by
  match l, h with
  | [x0, x1, x2, x3, x4, x5, x6], _ => exact ⟨x0, x1, x2, x3, x4, x5, x6, rfl⟩
theorem list_choose {α β : Type} {p : Nat → β → α → Prop} (l : List β) (h : ∀ i y, l[i]? = some y → ∃ z, p i y z) :
    ∃ zs : List α, zs.length = l.length ∧ ∀ (i : Nat) (z : α), zs[i]? = some z → ∃ y, l[i]? = some y ∧ p i y z := by
  induction l generalizing p with
  | nil => exact ⟨[], rfl, fun i z hz => by simp at hz⟩
  | cons x l ih =>
    obtain ⟨z0, h0⟩ := h 0 x rfl
    obtain ⟨zs, hl, hz⟩ := ih (p := fun i => p (i + 1)) (fun i y hy => h (i + 1) y (by simpa using hy))
    refine ⟨z0 :: zs, by simp [hl], fun i z hi => ?_⟩
    cases i with
    | zero => simp at hi; subst hi; exact ⟨x, rfl, h0⟩
    | succ i => simpa using hz i z (by simpa using hi)

theorem sum_le_bulk {H α : Type} (size : α → Nat) : ∀ (ds : List (DataW H)) (zs : List α), zs.length = ds.length → (∀ (i : Nat) (z : α) (d : DataW H), zs[i]? = some z → ds[i]? = some d → size z ≤ Rows.uptoBulk d) →
    (zs.map size).sum ≤ Rows.uptoBulkAll ds
  | [], zs, hl, _ => by
    have : zs = [] := List.eq_nil_of_length_eq_zero (by simpa using hl)
    subst this; simp
  | d :: ds, [], hl, _ => by simp at hl
  | d :: ds, z :: zs, hl, h => by
    have h0 := h 0 z d rfl rfl
    have h1 := sum_le_bulk size ds zs (by simpa using hl) (fun i z d hz hd => h (i + 1) z d (by simpa using hz) (by simpa using hd))
    simp only [List.map_cons, List.sum_cons, Rows.uptoBulkAll]
    omega

section
variable {H : Type} {enc : TypeId × Value → H} {P : Program} {W : World} {sp : Nat → Bool} {held : Bool}
/-- A SLICE OPENED: its elements as a list, what each is read as being told by 'conv' -/
theorem open_sl {t e : TypeId} {sz fuel : Nat} {cs : List Value} {x : DataW H × List MemPlace} (ht : P.underlying t = some (.slice e)) (hc : P.cellsOf e = sz) (hs : 0 < sz)
    (h : DataW.trod enc P W 0 sp held fuel t cs = some x) {α : Type} (E : World → Nat → Nat → α → Prop) (size : α → Nat)
    (conv : ∀ n cs' y b o, n < fuel → DataW.trod enc P W 0 sp held n e cs' = some y → cs'.length = sz → (∀ j, j < sz → W.cell? ⟨b, o + j, none⟩ = cs'[j]?) → ∃ z, E W b o z ∧ size z ≤ Rows.uptoBulk y.1) :
    ∃ (a : Option Addr) (cap : Nat) (zs : List α), cs = [.slice a zs.length cap] ∧ SlR sz E W a cap zs ∧ (zs.map size).sum + 1 ≤ Rows.uptoBulk x.1 := by
  rcases DataW.trod_slice ht h with ⟨rfl, rfl⟩ | ⟨a, len, cap, elems, rest, n, hn, rfl, rfl, _, hl, hm, hlen, hel, _, _⟩
  · exact ⟨none, 0, [], rfl, SlR.nil, by simp [Rows.uptoBulk]⟩
  · rw [hc] at hel
    have key : ∀ i y, elems[i]? = some y → ∃ z, (∃ b off, a = ⟨b, off, none⟩ ∧ E W b (off + i * sz) z) ∧ size z ≤ Rows.uptoBulk y.1 := by
      intro i y hy
      have hi : i < len := by rw [← hlen]; exact lt_of_get hy
      have h1 := hel i hi
      rw [hy] at h1
      obtain ⟨cs', hcs, hty⟩ := Option.bind_eq_some_iff.1 h1
      obtain ⟨_, hl', hcell⟩ := World.cells?_some hcs
      have hspot : ∃ b off, a = ⟨b, off, none⟩ := by
        have h0 := hcell 0 hs
        rw [List.getElem?_eq_getElem (by omega)] at h0
        have := World.cell?_spot h0
        obtain ⟨b, off, spot⟩ := a
        by_cases hi0 : i * sz = 0
        · simp [Addr.add, hi0] at this
          subst this
          exact ⟨b, off, rfl⟩
        · have h2 := hel 0 (by omega)
          obtain ⟨y0, hy0⟩ := get_of_lt (xs := elems) (k := 0) (by omega)
          rw [hy0] at h2
          obtain ⟨cs0, hcs0, _⟩ := Option.bind_eq_some_iff.1 h2
          obtain ⟨_, hl0, hcell0⟩ := World.cells?_some hcs0
          have h3 := hcell0 0 hs
          rw [List.getElem?_eq_getElem (by omega)] at h3
          have := World.cell?_spot h3
          simp [Addr.add] at this
          subst this
          exact ⟨b, off, rfl⟩
      obtain ⟨b, off, rfl⟩ := hspot
      obtain ⟨z, hz, hsz⟩ := conv n cs' y b (off + i * sz) (by omega) hty hl' (fun j hj => by
        rw [← hcell j hj, add_plain, add_plain])
      exact ⟨z, ⟨b, off, rfl, hz⟩, hsz⟩
    obtain ⟨zs, hzl, hz⟩ := list_choose (p := fun i y z => (∃ b off, a = ⟨b, off, none⟩ ∧ E W b (off + i * sz) z) ∧ size z ≤ Rows.uptoBulk y.1) elems key
    refine ⟨some a, cap, zs, by rw [hzl, hlen], ⟨by omega, hm, fun k z hk => ?_⟩, ?_⟩
    · obtain ⟨y, hy, ⟨b, off, rfl, he⟩, _⟩ := hz k z hk
      exact ⟨b, off, rfl, he⟩
    · have h1 := sum_le_bulk size (elems.map (·.1)) zs (by simpa using hzl) (fun i z d hzi hd => by
        obtain ⟨y, hy, _, hs⟩ := hz i z hzi
        rw [List.getElem?_map, hy] at hd
        simp at hd; subst hd; exact hs)
      simp only [Rows.uptoBulk]
      omega
end

/-- one cell that holds an integer -/
theorem conv_int {H : Type} {enc : TypeId × Value → H} {P : Program} {W : World} {sp : Nat → Bool} {held : Bool} {e : TypeId} {k : IntKind} (he : P.underlying e = some (.int k)) (n : Nat) (cs' : List Value) (y : DataW H × List MemPlace) (b o : Nat)
    (h : DataW.trod enc P W 0 sp held n e cs' = some y) (hc : ∀ j, j < 1 → W.cell? ⟨b, o + j, none⟩ = cs'[j]?) : ∃ z, IntE k W b o z ∧ 1 ≤ Rows.uptoBulk y.1 := by
  obtain ⟨z, rfl, rfl, hw⟩ := DataW.trod_int he h
  exact ⟨z, ⟨by have := hc 0 (by omega); simpa using this, hw⟩, by simp [Rows.uptoBulk]⟩
theorem conv_str {H : Type} {enc : TypeId × Value → H} {P : Program} {W : World} {sp : Nat → Bool} {held : Bool} {e : TypeId} (he : P.underlying e = some .string) (n : Nat) (cs' : List Value) (y : DataW H × List MemPlace) (b o : Nat)
    (h : DataW.trod enc P W 0 sp held n e cs' = some y) (hc : ∀ j, j < 1 → W.cell? ⟨b, o + j, none⟩ = cs'[j]?) : ∃ z : ByteArray, StrE W b o z ∧ z.size + 1 ≤ Rows.uptoBulk y.1 := by
  obtain ⟨z, rfl, rfl, hw⟩ := DataW.trod_string he h
  exact ⟨z, by have := hc 0 (by omega); simpa [StrE] using this, by simp [Rows.uptoBulk]⟩

end Go.Proofs.Ytmlldjcbijoheaa

/- Rational numbers that came in, opened. -/
namespace Go.Proofs.Ytmlldjcbijoheaa
open Go.ChangeShapes Go.WideShapes Go.ChangeAt Go.RowKit

theorem cellsRat : Try.prog.cellsOf 37 = 3 := by kernel_rfl
theorem cellsInt : Try.prog.cellsOf 35 = 2 := by kernel_rfl
theorem cellsNat : Try.prog.cellsOf 33 = 1 := by kernel_rfl
theorem cellsInts : Try.prog.cellsOf 26 = 1 := by kernel_rfl
theorem cellsI : Try.prog.cellsOf 3 = 1 := by kernel_rfl
theorem cellsB : Try.prog.cellsOf 4 = 1 := by kernel_rfl
theorem cellsS : Try.prog.cellsOf 9 = 1 := by kernel_rfl
theorem cellsU16 : Try.prog.cellsOf 130 = 1 := by kernel_rfl

theorem list_sum_ones {α : Type} (l : List α) : (l.map fun _ => 1).sum = l.length := by induction l with
  | nil => rfl
  | cons x l ih => simp only [List.map_cons, List.sum_cons, ih, List.length_cons]; omega

section
variable {H : Type} {enc : TypeId × Value → H} {W : World} {sp : Nat → Bool} {held : Bool} {n : Nat}
theorem open_nat {cs : List Value} {y : DataW H × List MemPlace} (h : DataW.trod enc Try.prog W 0 sp held n 33 cs = some y) :
    ∃ a c zs, cs = [.slice a (List.length zs) c] ∧ NatR W a c zs ∧ zs.length + 1 ≤ Rows.uptoBulk y.1 := by
  obtain ⟨a, c, zs, h1, h2, h3⟩ := open_sl Try.underlying33 cellsU16 (by omega) h (IntE .u16) (fun _ => 1) (fun m cs' y b o _ ht _ hc => conv_int Try.underlying130 m cs' y b o ht hc)
  rw [list_sum_ones] at h3
  exact ⟨a, c, zs, h1, h2, h3⟩
theorem open_intsl {cs : List Value} {y : DataW H × List MemPlace} (h : DataW.trod enc Try.prog W 0 sp held n 26 cs = some y) :
    ∃ a c zs, cs = [.slice a (List.length zs) c] ∧ IntsR W a c zs ∧ zs.length + 1 ≤ Rows.uptoBulk y.1 := by
  obtain ⟨a, c, zs, h1, h2, h3⟩ := open_sl Try.underlying26 cellsI (by omega) h (IntE .i64) (fun _ => 1) (fun m cs' y b o _ ht _ hc => conv_int Try.underlying3 m cs' y b o ht hc)
  rw [list_sum_ones] at h3
  exact ⟨a, c, zs, h1, h2, h3⟩
theorem open_strsl {cs : List Value} {y : DataW H × List MemPlace} (h : DataW.trod enc Try.prog W 0 sp held n 43 cs = some y) :
    ∃ a c zs, cs = [.slice a (List.length zs) c] ∧ StrsR W a c zs ∧ (zs.map fun s => s.size + 1).sum + 1 ≤ Rows.uptoBulk y.1 :=
  open_sl Try.underlying43 cellsS (by omega) h StrE (fun s => s.size + 1) (fun m cs' y b o _ ht _ hc => conv_str Try.underlying9 m cs' y b o ht hc)
theorem open_intst {cs : List Value} {y : DataW H × List MemPlace} (h : DataW.trod enc Try.prog W 0 sp held n 35 cs = some y) :
    ∃ b a c zs, cs = [.bool b, .slice a (List.length zs) c] ∧ NatR W a c zs ∧ zs.length + 2 ≤ Rows.uptoBulk y.1 := by
  obtain ⟨xs, m, rfl, rfl, hcl, hxl, hf⟩ := DataW.trod_struct Try.underlying35 h
  rw [cellsInt] at hcl
  obtain ⟨c0, c1, rfl⟩ := len2 hcl
  obtain ⟨y0, y1, rfl⟩ := len2 (show xs.length = 2 from hxl)
  · have h0 := hf 0 _ rfl
    have h1 := hf 1 _ rfl
    simp [cellsB, cellsNat] at h0 h1
    obtain ⟨b, e0, rfl⟩ := DataW.trod_bool Try.underlying4 h0
    obtain ⟨a, c, zs, e1, h2, h3⟩ := open_nat h1
    simp at e0 e1; subst e0; subst e1
    refine ⟨b, a, c, zs, rfl, h2, ?_⟩
    simp [Rows.uptoBulk, Rows.uptoBulkAll] at h3 ⊢
    omega
theorem open_rat {cs : List Value} {y : DataW H × List MemPlace} (h : DataW.trod enc Try.prog W 0 sp held n 37 cs = some y) :
    ∃ b na nc num da dc den, cs = [.bool b, .slice na (List.length num) nc, .slice da (List.length den) dc] ∧ NatR W na nc num ∧ NatR W da dc den ∧ num.length + den.length + 2 ≤ Rows.uptoBulk y.1 := by
  obtain ⟨xs, m, rfl, rfl, hcl, hxl, hf⟩ := DataW.trod_struct Try.underlying37 h
  rw [cellsRat] at hcl
  obtain ⟨c0, c1, c2, rfl⟩ := len3 hcl
  obtain ⟨y0, y1, rfl⟩ := len2 (show xs.length = 2 from hxl)
  · have h0 := hf 0 _ rfl
    have h1 := hf 1 _ rfl
    simp [cellsInt, cellsNat] at h0 h1
    obtain ⟨b, na, nc, num, e0, h2, h3⟩ := open_intst h0
    obtain ⟨da, dc, den, e1, h4, h5⟩ := open_nat h1
    simp at e0 e1
    obtain ⟨rfl, rfl⟩ := e0
    subst e1
    refine ⟨b, na, nc, num, da, dc, den, rfl, h2, h4, ?_⟩
    simp [Rows.uptoBulk, Rows.uptoBulkAll] at h3 h5 ⊢
    omega
end
end Go.Proofs.Ytmlldjcbijoheaa

/- Expressions that came in, opened. -/
namespace Go.Proofs.Ytmlldjcbijoheaa
open Go.ChangeShapes Go.WideShapes Go.ChangeAt Go.RowKit

mutual
/-- what an expression weighs -/
def Expr.weight : Expr → Nat
  | .mk _ n _ num den args _ => n.size + num.length + den.length + 1 + Expr.weights args
def Expr.weights : List Expr → Nat
  | [] => 0
  | e :: es => e.weight + Expr.weights es
end
theorem Expr.weight_eq (e : Expr) : e.weight = e.name.size + e.num.length + e.den.length + 1 + Expr.weights e.args := by cases e; rfl
theorem weights_sum (l : List Expr) : (l.map Expr.weight).sum = Expr.weights l := by induction l with
  | nil => rfl
  | cons x l ih => simp only [List.map_cons, List.sum_cons, ih, Expr.weights]
mutual
theorem count_le_weight : ∀ e : Expr, e.count ≤ e.weight
  | .mk _ n _ num den args _ => by
    have := counts_le_weights args
    simp only [Expr.count, Expr.weight]; omega
theorem counts_le_weights : ∀ l : List Expr, Expr.counts l ≤ Expr.weights l
  | [] => by simp [Expr.counts, Expr.weights]
  | e :: es => by
    have h1 := count_le_weight e
    have h2 := counts_le_weights es
    simp only [Expr.counts, Expr.weights]; omega
end

theorem cellsExpr : Try.prog.cellsOf 40 = 7 := by kernel_rfl
theorem cellsExprs : Try.prog.cellsOf 38 = 1 := by kernel_rfl

section
variable {H : Type} {enc : TypeId × Value → H} {W : World} {sp : Nat → Bool} {held : Bool}
theorem open_exprc : ∀ (n : Nat) (cs : List Value) (y : DataW H × List MemPlace), DataW.trod enc Try.prog W 0 sp held n 40 cs = some y →
    ∃ (e : Expr) (na : Option Addr) (nc : Nat) (da : Option Addr) (dc : Nat) (aa : Option Addr) (ac : Nat),
      cs = [.int .i64 e.kind, .string e.name, .bool e.neg, .slice na e.num.length nc, .slice da e.den.length dc, .slice aa e.args.length ac, .int .i64 e.pos] ∧ ExprR n W na nc da dc aa ac e ∧ e.weight ≤ Rows.uptoBulk y.1 := by
  intro n
  induction n using Nat.strongRecOn with
  | ind n ih =>
    intro cs y h
    obtain ⟨xs, m, rfl, rfl, hcl, hxl, hf⟩ := DataW.trod_struct Try.underlying40 h
    rw [cellsExpr] at hcl
    obtain ⟨c0, c1, c2, c3, c4, c5, c6, rfl⟩ := len7 hcl
    obtain ⟨y0, y1, y2, y3, y4, rfl⟩ := len5 (show xs.length = 5 from hxl)
    · have h0 := hf 0 _ rfl
      have h1 := hf 1 _ rfl
      have h2 := hf 2 _ rfl
      have h3 := hf 3 _ rfl
      have h4 := hf 4 _ rfl
      simp [cellsI, cellsS, cellsRat, cellsExprs] at h0 h1 h2 h3 h4
      obtain ⟨kind, e0, rfl, w0⟩ := DataW.trod_int Try.underlying3 h0
      obtain ⟨name, e1, rfl, w1⟩ := DataW.trod_string Try.underlying9 h1
      obtain ⟨neg, na, nc, num, da, dc, den, e2, r1, r2, w2⟩ := open_rat h2
      obtain ⟨pos, e4, rfl, w4⟩ := DataW.trod_int Try.underlying3 h4
      obtain ⟨aa, ac, args, e3, r3, w3⟩ := open_sl Try.underlying38 cellsExpr (by omega) h3 (ExprE m) Expr.weight (fun k cs' y b o hk ht hl hc => by
        obtain ⟨e, na, nc, da, dc, aa, ac, rfl, hr, hw⟩ := ih k (by omega) cs' y ht
        have hr' : ExprR m W na nc da dc aa ac e := hr.more (by omega)
        refine ⟨e, ⟨na, nc, da, dc, aa, ac, ⟨?_, ?_, ?_, ?_, ?_, ?_, ?_⟩, hr'⟩, hw⟩
        · have := hc 0 (by omega); simpa using this
        · have := hc 1 (by omega); simpa using this
        · have := hc 2 (by omega); simpa using this
        · have := hc 3 (by omega); simpa using this
        · have := hc 4 (by omega); simpa using this
        · have := hc 5 (by omega); simpa using this
        · have := hc 6 (by omega); simpa using this)
      simp at e0 e1 e2 e3 e4
      obtain ⟨rfl, rfl, rfl⟩ := e2
      subst e0 e1 e3 e4
      refine ⟨.mk kind name neg num den args pos, na, nc, da, dc, aa, ac, rfl, .mk (inInt_of w0) (inInt_of w4) w1 r1 r2 r3, ?_⟩
      rw [weights_sum] at w3
      simp [Rows.uptoBulk, Rows.uptoBulkAll, Expr.weight] at w2 w3 ⊢
      have : name.data.size = name.size := rfl
      omega
set_option maxRecDepth 100000 in
/-- AN EXPRESSION THAT CAME IN -/
theorem open_expr {r : Reach} {b0 : Nat} {v : Value} {d : DataW H} {p : List MemPlace} (hv : Value.okWide Try.prog W r b0 40 v) (h : DataW.Trod enc Try.prog W 0 sp held 40 v d p) :
    ∃ (e : Expr) (n : Nat) (na : Option Addr) (nc : Nat) (da : Option Addr) (dc : Nat) (aa : Option Addr) (ac : Nat), v = e.val na nc da dc aa ac ∧ ExprR n W na nc da dc aa ac e ∧ e.weight ≤ Rows.uptoBulk d := by
  obtain ⟨cs, rfl, _⟩ := okWide_struct Try.underlying40 hv
  obtain ⟨n, hn⟩ := h
  obtain ⟨e, na, nc, da, dc, aa, ac, h1, h2, h3⟩ := open_exprc n _ _ hn
  refine ⟨e, n, na, nc, da, dc, aa, ac, ?_, h2, h3⟩
  obtain ⟨l⟩ := cs
  simp [Value.cells] at h1
  simp [Expr.val, h1]
end
end Go.Proofs.Ytmlldjcbijoheaa

/- Programs that came in, opened. -/
namespace Go.Proofs.Ytmlldjcbijoheaa
open Go.ChangeShapes Go.WideShapes Go.ChangeAt Go.RowKit

def Stmt.weight (s : Stmt) : Nat := (s.names.map fun n => n.size + 1).sum + s.expr.weight + 1
theorem cellsStmt : Try.prog.cellsOf 49 = 10 := by kernel_rfl
theorem cellsStrs : Try.prog.cellsOf 43 = 1 := by kernel_rfl
theorem cellsStmts : Try.prog.cellsOf 50 = 1 := by kernel_rfl
theorem cellsProg : Try.prog.cellsOf 52 = 1 := by kernel_rfl

mutual
theorem few_of_weight : ∀ e : Expr, e.weight ≤ 2000000 → e.few
  | .mk _ n _ num den args _, h => by
    simp only [Expr.weight] at h
    exact ⟨by omega, by omega, fews_of_weight args (by omega)⟩
theorem fews_of_weight : ∀ l : List Expr, Expr.weights l ≤ 2000000 → Expr.fews l
  | [], _ => trivial
  | e :: es, h => by
    simp only [Expr.weights] at h
    exact ⟨few_of_weight e (by omega), fews_of_weight es (by omega)⟩
end
theorem mem_sum_le {α : Type} (g : α → Nat) {l : List α} {x : α} (h : x ∈ l) : g x ≤ (l.map g).sum := by
  induction l with
  | nil => cases h
  | cons y l ih =>
    simp only [List.map_cons, List.sum_cons]
    rcases List.mem_cons.1 h with rfl | h
    · omega
    · have := ih h; omega
theorem Stmt.small_of {s : Stmt} (h : s.weight ≤ 1048576) : s.small := by
  unfold Stmt.weight at h
  refine ⟨few_of_weight _ (by omega), ?_, fun n hn => ?_⟩
  · have := count_le_weight s.expr; omega
  · have := mem_sum_le (fun n : ByteArray => n.size + 1) hn
    omega

theorem len10 {α : Type} {l : List α} (h : l.length = 10) : ∃ x0 x1 x2 x3 x4 x5 x6 x7 x8 x9, l = [x0, x1, x2, x3, x4, x5, x6, x7, x8, x9] := by
  obtain ⟨x0, r, rfl⟩ := List.exists_cons_of_length_eq_add_one (n := 9) h
  obtain ⟨x1, r, rfl⟩ := List.exists_cons_of_length_eq_add_one (n := 8) (Nat.succ.inj h)
  obtain ⟨x2, x3, x4, x5, x6, x7, x8, x9, rfl⟩ : ∃ x2 x3 x4 x5 x6 x7 x8 x9, r = [x2, x3, x4, x5, x6, x7, x8, x9] := by
    obtain ⟨x2, r, rfl⟩ := List.exists_cons_of_length_eq_add_one (n := 7) (Nat.succ.inj (Nat.succ.inj h))
    obtain ⟨a, b, c, d, e, f, g, hr⟩ := len7 (l := r) (Nat.succ.inj (Nat.succ.inj (Nat.succ.inj h)))
    exact ⟨x2, a, b, c, d, e, f, g, by rw [hr]⟩
  exact ⟨_, _, _, _, _, _, _, _, _, _, rfl⟩

section
variable {H : Type} {enc : TypeId × Value → H} {W : World} {sp : Nat → Bool} {held : Bool}
theorem open_stmtc {n : Nat} {cs : List Value} {y : DataW H × List MemPlace} (h : DataW.trod enc Try.prog W 0 sp held n 49 cs = some y) :
    ∃ (s : Stmt) (p : SA), cs = [.int .i64 s.kind, .slice p.sa s.names.length p.sc, .int .i64 s.expr.kind, .string s.expr.name, .bool s.expr.neg, .slice p.na s.expr.num.length p.nc, .slice p.da s.expr.den.length p.dc, .slice p.aa s.expr.args.length p.ac, .int .i64 s.expr.pos, .int .i64 s.pos] ∧
      StmtR n W p s ∧ s.weight ≤ Rows.uptoBulk y.1 := by
  obtain ⟨xs, m, rfl, rfl, hcl, hxl, hf⟩ := DataW.trod_struct Try.underlying49 h
  rw [cellsStmt] at hcl
  obtain ⟨d0, d1, d2, d3, d4, d5, d6, d7, d8, d9, rfl⟩ := len10 hcl
  obtain ⟨y0, y1, y2, y3, rfl⟩ := len4 (show xs.length = 4 from hxl)
  · have h0 := hf 0 _ rfl
    have h1 := hf 1 _ rfl
    have h2 := hf 2 _ rfl
    have h3 := hf 3 _ rfl
    simp [cellsI, cellsStrs, cellsExpr] at h0 h1 h2 h3
    obtain ⟨kind, e0, rfl, w0⟩ := DataW.trod_int Try.underlying3 h0
    obtain ⟨sa, sc, names, e1, r1, w1⟩ := open_strsl h1
    obtain ⟨e, na, nc, da, dc, aa, ac, e2, r2, w2⟩ := open_exprc _ _ _ h2
    obtain ⟨pos, e3, rfl, w3⟩ := DataW.trod_int Try.underlying3 h3
    simp at e0 e1 e2 e3
    obtain ⟨rfl, rfl, rfl, rfl, rfl, rfl, rfl⟩ := e2
    subst e0 e1 e3
    refine ⟨⟨kind, names, e, pos⟩, ⟨sa, sc, na, nc, da, dc, aa, ac⟩, rfl, ⟨inInt_of w0, r1, r2.more (by omega), inInt_of w3⟩, ?_⟩
    simp [Rows.uptoBulk, Rows.uptoBulkAll, Stmt.weight] at w1 w2 ⊢
    omega
theorem open_progc {n : Nat} {cs : List Value} {y : DataW H × List MemPlace} (h : DataW.trod enc Try.prog W 0 sp held n 52 cs = some y) :
    ∃ (l : List Stmt) (m : Nat) (la : Option Addr) (lc : Nat), cs = [.slice la l.length lc] ∧ StmtsR m W la lc l ∧ (l.map Stmt.weight).sum ≤ Rows.uptoBulk y.1 := by
  obtain ⟨xs, m, rfl, rfl, hcl, hxl, hf⟩ := DataW.trod_struct Try.underlying52 h
  rw [cellsProg] at hcl
  obtain ⟨c0, rfl⟩ := len1 hcl
  obtain ⟨y0, rfl⟩ := len1 (show xs.length = 1 from hxl)
  have h0 := hf 0 _ rfl
  simp [cellsStmts] at h0
  obtain ⟨la, lc, l, e0, r0, w0⟩ := open_sl Try.underlying50 cellsStmt (by omega) h0 (StmtE m) Stmt.weight (fun k cs' y b o hk ht hl hc => by
    obtain ⟨s, p, rfl, hR, hw⟩ := open_stmtc ht
    refine ⟨s, ⟨p, ⟨?_, ?_, ?_, ?_, ?_, ?_, ?_, ?_, ?_, ?_⟩, hR.more (by omega)⟩, hw⟩
    · have := hc 0 (by omega); simpa using this
    · have := hc 1 (by omega); simpa using this
    · have := hc 2 (by omega); simpa using this
    · have := hc 3 (by omega); simpa using this
    · have := hc 4 (by omega); simpa using this
    · have := hc 5 (by omega); simpa using this
    · have := hc 6 (by omega); simpa using this
    · have := hc 7 (by omega); simpa using this
    · have := hc 8 (by omega); simpa using this
    · have := hc 9 (by omega); simpa using this)
  simp at e0
  refine ⟨l, m, la, lc, by rw [e0], r0, ?_⟩
  simp [Rows.uptoBulk, Rows.uptoBulkAll] at w0 ⊢
  omega
set_option maxRecDepth 100000 in
/-- A PROGRAM THAT CAME IN -/
theorem open_program {r : Reach} {b0 : Nat} {v : Value} {d : DataW H} {p : List MemPlace} (hv : Value.okWide Try.prog W r b0 52 v) (h : DataW.Trod enc Try.prog W 0 sp held 52 v d p) :
    ∃ (l : List Stmt) (n : Nat) (la : Option Addr) (lc : Nat), v = progVal l.length la lc ∧ StmtsR n W la lc l ∧ (l.map Stmt.weight).sum ≤ Rows.uptoBulk d := by
  obtain ⟨cs, rfl, _⟩ := okWide_struct Try.underlying52 hv
  obtain ⟨n, hn⟩ := h
  obtain ⟨l, m, la, lc, h1, h2, h3⟩ := open_progc hn
  refine ⟨l, m, la, lc, ?_, h2, h3⟩
  obtain ⟨q⟩ := cs
  simp [Value.cells] at h1
  simp [progVal, h1]
end
end Go.Proofs.Ytmlldjcbijoheaa

/- The walk of ScopeTells. -/
namespace Go.Proofs.Ytmlldjcbijoheaa
open Go.RowKit

set_option maxRecDepth 100000 in
set_option maxHeartbeats 1000000 in
theorem dependsS_err (d : Nat) (l : List Stmt) (n : ByteArray) (la : Option Addr) (lc : Nat) (w : World) (h : StmtsR d w la lc l) (hat : atFrom n 0 l = -1) :
    Calls Try.prog 44 #[progVal l.length la lc, .string n] w fun r w' => r = .returned (.tuple #[.slice none 0 0, .int .i64 6]) ∧ Below w.heap.size w w' := by
  have CI := fun W (hW : Below w.heap.size w W) g hg => indexDef_any d l n g la lc W (h.ext (Ext.below hW)) hg
  rw [hat] at CI
  replace CI := Lib.hid CI
  unfold progVal
  have hll := h.len
  clear h hat
  have hy := blk_at1 w (.cells #[.slice la l.length lc] 52) 9 #[.string n]
  have hb0 : Below w.heap.size w ((w.alloc (.cells #[.slice la l.length lc] 52)).alloc (.cells #[.string n] 9)) := by go_grown
  go_enter Try.func44, Try.ntmps44
  go_wp2_with fail
  revert hy hb0
  generalize (w.alloc (.cells #[.slice la l.length lc] 52)).alloc (.cells #[.string n] 9) = w0
  intro hy hb0
  have y0 : w0.cell? ⟨w.heap.size + 1, 0, none⟩ = some (.string n) := hy.cell 0
  refine (CI.out _ hb0 _ y0).mono ?_
  rintro r w1 ⟨rfl, hb1⟩
  have hw1 := below_then hb0 hb1
  go_wp2_with fail
  refine bodyPost_ret (v := .tuple #[.slice none 0 0, .int .i64 6]) (by simp [results, Try.results44, go_sem]) rfl ⟨rfl, hw1⟩

/-- what both searches of the dependence give -/
def RetTwo (A : List ByteArray) (x : Int) (w : World) (e : Ending) (w' : World) : Prop := ∃ a c, e = .returned (.tuple #[.slice a A.length c, .int .i64 x]) ∧ StrsR w' a c A ∧ Below w.heap.size w w'

set_option maxRecDepth 100000 in
set_option maxHeartbeats 8000000 in
theorem scopeTells_any (d : Nat) (l : List Stmt) (n : ByteArray) (sort : Int) (la : Option Addr) (lc : Nat) (w : World) (h : StmtsR d w la lc l) (hs : ∀ s ∈ l, s.small) :
    Calls Try.prog 9 #[progVal l.length la lc, .string n, .int .i64 sort] w fun r w' => r = .returned (.bool true) ∧ Below w.heap.size w w' := by
  have CR := fun W (hW : Below w.heap.size w W) => right19_any d l la lc W (h.ext (Ext.below hW)) hs
  have H := Lib.hid h
  obtain ⟨rb, hrb⟩ : ∃ b, rightP l = b := ⟨_, rfl⟩
  rw [hrb] at CR
  unfold progVal at CR ⊢
  replace CR := Lib.hid CR
  have HS := Lib.hid hs
  have hz := Blk.new w 52 #[.slice la l.length lc]
  have hb0 : Below w.heap.size w (w.alloc (.cells #[.slice la l.length lc] 52)) := by go_grown
  clear h hs
  go_enter Try.func9, Try.ntmps9
  go_wp2_with fail
  revert hz hb0
  generalize w.alloc (.cells #[.slice la l.length lc] 52) = w0
  intro hz hb0
  refine (CR.out _ hb0).mono ?_
  rintro r w1 ⟨rfl, hb1⟩
  have hw1 := below_then hb0 hb1
  have hz1 := hz.below' hb1
  clear hz hb0 hb1
  cases rb
  · go_wp2_with fail
    go_ret
    exact ⟨rfl, hw1⟩
  · obtain ⟨hl, hsm⟩ := rightP_small hrb
    have hR := rgt_of hrb
    have hsz : ∀ s ∈ l, ∀ n ∈ s.names, n.size ≤ maxLen := fun s hs n hn => by have := (HS.out s hs).2.2 n hn; unfold maxLen; omega
    have CDS : ∀ W, Below w.heap.size w W → ∀ s, Calls Try.prog 37 #[.agg #[.slice la l.length lc], .int .i64 s] W (RetS19 (namesOf (takesR s) l) W) := fun W hW s => by
      have := definedS_any d l s la lc W (H.out.ext (Ext.below hW)) (by have := namesOf_length (g := takesS s) fun x hx => (hsm x hx).2; omega)
      rw [rightP_names hrb] at this
      exact this
    have CDR : ∀ W, Below w.heap.size w W → ∀ s, Calls Try.prog 38 #[.agg #[.slice la l.length lc], .int .i64 s] W (RetS19 (namesOf (takesR s) l) W) := fun W hW s =>
      definedR_any d l s la lc W (H.out.ext (Ext.below hW)) (by have := namesOf_length (g := takesR s) fun x hx => (hsm x hx).2; omega)
    have CUS : ∀ W, Below w.heap.size w W → Calls Try.prog 39 #[.agg #[.slice la l.length lc]] W (RetS19 (unusedR l) W) := fun W hW => by
      have := unusedS_any d l la lc W (H.out.ext (Ext.below hW)) hl hsm hsz
      rw [unused_same hrb] at this
      exact this
    have CUR : ∀ W, Below w.heap.size w W → Calls Try.prog 40 #[.agg #[.slice la l.length lc]] W (RetS19 (unusedR l) W) := fun W hW =>
      unusedR_any d l la lc W (H.out.ext (Ext.below hW)) hl hsm
    have CVS : ∀ W, Below w.heap.size w W → Calls Try.prog 42 #[.agg #[.slice la l.length lc], .string n] W (RetI19 (usesL usedR n 0 l) W) := fun W hW => by
      have := usesS_any d l n la lc W (H.out.ext (Ext.below hW)) hl (fun s hs => by have := (hsm s hs).1; omega)
      rw [uses_same hR.err n l 0 (fun _ h => h)] at this
      exact this
    have CVR : ∀ W, Below w.heap.size w W → Calls Try.prog 43 #[.agg #[.slice la l.length lc], .string n] W (RetI19 (usesL usedR n 0 l) W) := fun W hW =>
      usesR_any d l n la lc W (H.out.ext (Ext.below hW)) hl (fun s hs => by have := (hsm s hs).1; omega)
    have hvi := usesL_in usedR n l 0 (by omega)
    obtain ⟨A, x, CPS, CPR⟩ : ∃ (A : List ByteArray) (x : Int), (∀ W, Below w.heap.size w W → Calls Try.prog 44 #[.agg #[.slice la l.length lc], .string n] W (RetTwo A x W)) ∧
        (∀ W, Below w.heap.size w W → Calls Try.prog 45 #[.agg #[.slice la l.length lc], .string n] W (RetTwo A x W)) := by
      by_cases hn : hasName (namesOf (takesR 0) l) n = true
      · have hn2 := hn
        rw [all_names] at hn2
        obtain ⟨k0, x0, h1, h2, h3, _⟩ := atFrom_some (i := 0) hn2
        rw [Nat.zero_add] at h1
        refine ⟨(namesOf (takesR 0) l).filter (depDown l k0 (hasName (usedS x0))), 0, fun W hW => ?_, fun W hW => ?_⟩
        · have := dependsS_any d l n la lc W (H.out.ext (Ext.below hW)) hl hsm hsz k0 x0 h1 h2
          rw [rightP_names hrb] at this
          refine this.mono ?_
          rintro r w' ⟨a, c, rfl, ho, hb⟩
          exact ⟨a, c, rfl, ho.reads1, hb⟩
        · refine (dependsR_any d l n la lc W (H.out.ext (Ext.below hW)) hl hsm hn).mono ?_
          rintro r w' ⟨f, a, c, hf, rfl, ho, hb⟩
          have e : f = depDown l k0 (hasName (usedS x0)) := funext fun t => by
            rw [Bool.eq_iff_iff, hf t, depDown_iff hR h2 (hasName_iff.1 h3)]
          subst e
          exact ⟨a, c, rfl, ho.reads1, hb⟩
      · have hn1 : hasName (namesOf (takesR 0) l) n = false := by simpa using hn
        have hn2 := hn1
        rw [all_names] at hn2
        refine ⟨[], 6, fun W hW => ?_, fun W hW => ?_⟩
        · refine (dependsS_err d l n la lc W (H.out.ext (Ext.below hW)) (atFrom_none hn2)).mono ?_
          rintro r w' ⟨rfl, hb⟩
          exact ⟨none, 0, rfl, SlR.nil, hb⟩
        · refine (dependsR_err d l n la lc W (H.out.ext (Ext.below hW)) hl (fun s hs => (hsm s hs).2) hn1).mono ?_
          rintro r w' ⟨rfl, hb⟩
          exact ⟨none, 0, rfl, SlR.nil, hb⟩
    revert CUS CUR CVS CVR hvi
    generalize unusedR l = U
    generalize usesL usedR n 0 l = V
    intro CUS CUR CVS CVR hvi
    replace CDS := Lib.hid CDS; replace CDR := Lib.hid CDR; replace CUS := Lib.hid CUS; replace CUR := Lib.hid CUR; replace CVS := Lib.hid CVS; replace CVR := Lib.hid CVR
    replace CPS := Lib.hid CPS; replace CPR := Lib.hid CPR; replace hvi := Lib.hid hvi
    clear hrb hl hsm hR hsz H HS CR
    have hB := Blk.new w1 3 #[.int .i64 sort, .int .i64 0, .int .i64 1, .int .i64 2, .int .i64 3]
    have hbA : Below w1.heap.size w1 (w1.alloc (.cells #[.int .i64 sort, .int .i64 0, .int .i64 1, .int .i64 2, .int .i64 3] 3)) := by go_grown
    go_wp2_with fail
    revert hB hbA
    generalize w1.alloc (.cells #[.int .i64 sort, .int .i64 0, .int .i64 1, .int .i64 2, .int .i64 3] 3) = wA
    generalize hgB : w1.heap.size = gB
    intro hB hbA
    have hwA := hw1.trans (hbA.mono (by have := hw1.size; omega))
    have hzA : Blk wA w.heap.size 52 #[.slice la l.length lc] := hz1.below (by rw [← hgB] at hbA; exact hbA) (by have := hz1.lt; omega)
    clear hbA hz1 hgB hw1
    go_loopg [19] 5 (fun m q wr => ∃ k : Nat, k + m = 5 ∧ q = .int .i64 k ∧ Below wA.heap.size wA wr)
    case atStart => exact ⟨0, by omega, rfl, Below.refl _ _⟩
    case round =>
      obtain ⟨k, hkm, rfl, hb⟩ := hrel
      have hwr := below_then hwA hb
      have hzr := hzA.below' hb
      have HKM := Lib.hid hkm
      clear hkm
      by_cases hlt : k < 5
      · obtain ⟨s, hss⟩ : ∃ s, (#[.int .i64 sort, .int .i64 0, .int .i64 1, .int .i64 2, .int .i64 3] : Array Value)[k]? = some (.int .i64 s) := by
          have : k = 0 ∨ k = 1 ∨ k = 2 ∨ k = 3 ∨ k = 4 := by omega
          rcases this with rfl | rfl | rfl | rfl | rfl
          · exact ⟨sort, rfl⟩
          · exact ⟨0, rfl⟩
          · exact ⟨1, rfl⟩
          · exact ⟨2, rfl⟩
          · exact ⟨3, rfl⟩
        have u0 : wr.cell? ⟨gB, k, none⟩ = some (.int .i64 s) := ((hB.below' hb).cell k).trans hss
        have z0 : ∀ w', Below wr.heap.size wr w' → w'.cell? ⟨w.heap.size, 0, none⟩ = some (.slice la l.length lc) := held (hzr.cell 0)
        have s0 : Below wr.heap.size wr wr.drew := (Below.refl _ _).drew
        obtain ⟨M, hM⟩ : ∃ q, namesOf (takesR s) l = q := ⟨_, rfl⟩
        have C1 := fun W (hW : Below w.heap.size w W) => CDS.out W hW s
        have C2 := fun W (hW : Below w.heap.size w W) => CDR.out W hW s
        rw [hM] at C1 C2
        replace C1 := Lib.hid C1; replace C2 := Lib.hid C2
        clear hss hM
        go_wp2_with fail
        clear u0
        refine wp_region_mix (S := Below wr.heap.size wr) [(0, .q), (1, .q), (3, .q), (4, .q), (2, .l), (5, .t), (6, .t), (7, .p)] (by kernel_rfl) (by kernel_rfl) (by kernel_rfl) (fun d _ _ _ _ h => by cases d <;> exact h) (s0) ?_
        iterate 4 (refine wpMix_q rfl rfl (fun K hK => ?_); apply Exists.intro; refine ⟨fun w' hw' => ?_, ?_⟩; (focus (go_simp; try rfl)); go_simp; refine hK _ _ ?_; clear hK K)
        refine wpMix_l rfl rfl (fun K hK => ?_)
        go_simp
        refine (C1.out _ (below_then hwr s0)).mono ?_
        rintro r w2 ⟨a1, c1, rfl, ho1, hb2⟩
        dsimp only
        refine hK.out _ _ (below_then s0 hb2) (fun _ => ?_)
        clear hK K
        have s1 := below_then s0 hb2
        refine wpMix_t rfl rfl (fun K hK => ?_)
        go_simp
        refine (C2.out _ (below_then hwr s1)).mono ?_
        rintro r w3 ⟨a2, c2, rfl, ho2, hb3⟩
        dsimp only
        refine hK.out _ _ ?_
        clear hK K
        have s2 := below_then s1 hb3
        refine wpMix_t rfl rfl (fun K hK => ?_)
        go_simp
        refine (sameStrings19_any M a1 a2 c1 c2 w3 (ho1.reads1.ext (Ext.below hb3)) ho2.reads1).mono ?_
        rintro r w4 ⟨rfl, hb4⟩
        dsimp only
        refine hK.out _ _ ?_
        clear hK K
        iterate 1 (refine wpMix_p rfl rfl (fun K hK => ?_); apply Exists.intro; refine ⟨fun w' => ?_, ?_⟩; (focus (go_simp; try rfl)); go_simp; refine hK _ _ ?_; clear hK K)
        refine wpMix_nil ?_
        have s3 := below_then s2 hb4
        clear z0
        go_wp2
        go_roundg (gk - 1)
        case rel => exact ⟨k + 1, by have := HKM.out; omega, by go_num, below_then hb s3⟩
        case measure => have := HKM.out; omega
      · have hk : k = 5 := by have := HKM.out; omega
        subst hk
        have z0 : ∀ w', Below wr.heap.size wr w' → w'.cell? ⟨w.heap.size, 0, none⟩ = some (.slice la l.length lc) := held (hzr.cell 0)
        have s0 : Below wr.heap.size wr wr.drew := (Below.refl _ _).drew
        go_wp2_with fail
        refine wp_region_mix (S := Below wr.heap.size wr) [(0, .q), (2, .q), (1, .l), (3, .l), (4, .l), (5, .q), (6, .q), (7, .q), (8, .q), (10, .q), (11, .q), (9, .l), (12, .t), (13, .t), (14, .p), (15, .p)] (by kernel_rfl) (by kernel_rfl) (by kernel_rfl) (fun d _ _ _ _ h => by cases d <;> exact h) (s0) ?_
        iterate 2 (refine wpMix_q rfl rfl (fun K hK => ?_); apply Exists.intro; refine ⟨fun w' hw' => ?_, ?_⟩; (focus (go_simp; try rfl)); go_simp; refine hK _ _ ?_; clear hK K)
        refine wpMix_l rfl rfl (fun K hK => ?_)
        go_simp
        refine (CUS.out _ (below_then hwr s0)).mono ?_
        rintro r w2 ⟨a1, c1, rfl, ho1, hb2⟩
        dsimp only
        refine hK.out _ _ (below_then s0 hb2) (fun _ => ?_)
        clear hK K
        have s1 := below_then s0 hb2
        refine wpMix_l rfl rfl (fun K hK => ?_)
        go_simp
        refine (CUR.out _ (below_then hwr s1)).mono ?_
        rintro r w3 ⟨a2, c2, rfl, ho2, hb3⟩
        dsimp only
        refine hK.out _ _ (below_then s1 hb3) (fun _ => ?_)
        clear hK K
        have s2 := below_then s1 hb3
        refine wpMix_l rfl rfl (fun K hK => ?_)
        go_simp
        refine (sameStrings19_any U a1 a2 c1 c2 w3 (ho1.reads1.ext (Ext.below hb3)) ho2.reads1).mono ?_
        rintro r w4 ⟨rfl, hb4⟩
        dsimp only
        refine hK.out _ _ (below_then s2 hb4) (fun _ => ?_)
        clear hK K
        have s3 := below_then s2 hb4
        iterate 6 (refine wpMix_q rfl rfl (fun K hK => ?_); apply Exists.intro; refine ⟨fun w' hw' => ?_, ?_⟩; (focus (go_simp; try rfl)); go_simp; refine hK _ _ ?_; clear hK K)
        refine wpMix_l rfl rfl (fun K hK => ?_)
        go_simp
        refine (CVS.out _ (below_then hwr s3)).mono ?_
        rintro r w5 ⟨a3, c3, rfl, ho3, hb5⟩
        dsimp only
        refine hK.out _ _ (below_then s3 hb5) (fun _ => ?_)
        clear hK K
        have s4 := below_then s3 hb5
        refine wpMix_t rfl rfl (fun K hK => ?_)
        go_simp
        refine (CVR.out _ (below_then hwr s4)).mono ?_
        rintro r w6 ⟨a4, c4, rfl, ho4, hb6⟩
        dsimp only
        refine hK.out _ _ ?_
        clear hK K
        have s5 := below_then s4 hb6
        refine wpMix_t rfl rfl (fun K hK => ?_)
        go_simp
        refine (sameInts19_eq V a3 a4 c3 c4 w6 ((ho3.reads1 hvi.out).ext (Ext.below hb6)) (ho4.reads1 hvi.out)).mono ?_
        rintro r w7 ⟨rfl, hb7⟩
        dsimp only
        refine hK.out _ _ ?_
        clear hK K
        iterate 2 (refine wpMix_p rfl rfl (fun K hK => ?_); apply Exists.intro; refine ⟨fun w' => ?_, ?_⟩; (focus (go_simp; try rfl)); go_simp; refine hK _ _ ?_; clear hK K)
        refine wpMix_nil ?_
        have s6 := below_then s5 hb7
        have hw7 := below_then hwr s6
        have hz7 := hzr.below' s6
        clear z0
        have z0 := hz7.cell 0
        clear s0 s1 s2 s3 s4 s5 hb2 hb3 hb4 hb5 hb6 hb7 ho1 ho2 ho3 ho4
        go_wp2_with fail
        refine (CPS.out _ hw7).mono ?_
        rintro r w8 ⟨a5, c5, rfl, ho5, hb8⟩
        have hw8 := below_then hw7 hb8
        have hz8 := hz7.below' hb8
        clear z0
        have z0 := hz8.cell 0
        go_wp2_with fail
        refine (CPR.out _ hw8).mono ?_
        rintro r w9 ⟨a6, c6, rfl, ho6, hb9⟩
        have hw9 := below_then hw8 hb9
        have HO5 := Lib.hid (ho5.ext (Ext.below hb9))
        have HO6 := Lib.hid ho6
        clear z0 ho5 ho6
        go_wp2_with fail
        refine (sameStrings19_any A a5 a6 c5 c6 w9 HO5.out HO6.out).mono ?_
        rintro r wX ⟨rfl, hbX⟩
        have hwX := below_then hw9 hbX
        go_wp2
        go_ret
        exact ⟨ret_bool (by simp), hwX⟩
theorem scopeTells_law {v : Value} {w : World} {k : Nat} (h : ∃ (l : List Stmt) (n : Nat) (la : Option Addr) (lc : Nat), v = progVal l.length la lc ∧ StmtsR n w la lc l ∧ (l.map Stmt.weight).sum ≤ k)
    (n : ByteArray) (_ : n.size ≤ maxLen) (s : Int) (_ : (Lit.int .i64 s).wf = true) (hk : k ≤ 1048576) :
    Calls Try.prog 9 #[v, .string n, .int .i64 s] w fun r w' => r = .returned (.bool true) ∧ Below w.heap.size w w' := by
  obtain ⟨l, d, la, lc, rfl, hr, hw⟩ := h
  exact scopeTells_any d l n s la lc w hr (fun s hs => Stmt.small_of (by have := mem_sum_le Stmt.weight hs; omega))
end Go.Proofs.Ytmlldjcbijoheaa
