/- Slices of expressions that a call makes itself. -/
import Derived.Test.YtmlldjcbijoheaaStrs
import Derived.Test.YtmlldjcbijoheaaMade
import Derived.Test.YtmlldjcbijoheaaExprR
namespace Go.Proofs.Ytmlldjcbijoheaa
open Go.RowKit

/-- an expression with the addresses of its slices -/
structure XP where
  e : Expr
  na : Option Addr
  nc : Nat
  da : Option Addr
  dc : Nat
  aa : Option Addr
  ac : Nat
def XP.val (p : XP) : Value := p.e.val p.na p.nc p.da p.dc p.aa p.ac
def XP.R (d : Nat) (w : World) (p : XP) : Prop := ExprR d w p.na p.nc p.da p.dc p.aa p.ac p.e
def exprC (p : XP) : List Value := [.int .i64 p.e.kind, .string p.e.name, .bool p.e.neg, .slice p.na p.e.num.length p.nc, .slice p.da p.e.den.length p.dc, .slice p.aa p.e.args.length p.ac, .int .i64 p.e.pos]
theorem exprC_len (p : XP) : (exprC p).length = 7 := rfl
theorem exprC_one (p : XP) : ∀ u ∈ exprC p, u.oneCell' = true := by simp [exprC, Value.oneCell']
abbrev OwnX (B : Nat) (w : World) (a : Option Addr) (c : Nat) (l : List XP) : Prop := Own exprC 7 40 B w a c l
theorem infoX : (Try.prog.info? 40).map (fun i => (i.zero, i.size, i.bytes)) = some (some (.agg #[.int .i64 0, .string ⟨#[]⟩, .bool false, .slice none 0 0, .slice none 0 0, .slice none 0 0, .int .i64 0]), 7, 112) := by kernel_rfl
theorem exprC_cells {w : World} {b o : Nat} {p : XP} (h : ∀ j u, (exprC p)[j]? = some u → w.cell? ⟨b, o + j, none⟩ = some u) : ExprC w b o p.na p.nc p.da p.dc p.aa p.ac p.e :=
  ⟨by simpa using h 0 _ rfl, h 1 _ rfl, h 2 _ rfl, h 3 _ rfl, h 4 _ rfl, h 5 _ rfl, h 6 _ rfl⟩
theorem OwnX.readsX {B : Nat} {w : World} {a : Option Addr} {c d : Nat} {l : List XP} (h : OwnX B w a c l) (hr : ∀ p ∈ l, p.R d w) : SlR 7 (ExprE d) w a c (l.map XP.e) :=
  Own.readsM XP.e exprC_len h fun _b _o p hp hc => ⟨p.na, p.nc, p.da, p.dc, p.aa, p.ac, exprC_cells hc, hr p hp⟩
/-- 'l = append(l, x)', x an expression: an operation -/
theorem wp_append_expr {B : Nat} {w : World} {l : List XP} {o : Oper} {act : Act} {K : Act → World → Prop} {Q : Exit → Act → World → Prop} (s y : Operand)
    (ho : o.op = .call { callee := .builtin .append, args := #[s, y], argTypes := #[38, 38] })
    (a : Option Addr) (c : Nat) (hs : act.eval s = .slice a l.length c) (hown : OwnX B w a c l)
    (x : XP) (b c1 : Nat) (hy : act.eval y = .slice (some ⟨b, 0, none⟩) 1 c1) (hcell : ∀ j u, (exprC x)[j]? = some u → w.cell? ⟨b, j, none⟩ = some u)
    (l2 : List XP) (hl2 : l2 = l ++ [x]) (hlen : l2.length ≤ 16777216) (hB : B ≤ w.heap.size)
    (h : ∀ a' c' w', OwnX B w' a' c' l2 → w.grownBy w' (Value.ownBlock (.slice a l.length c)) → ((∃ g, a' = some ⟨g, 0, none⟩ ∧ (a = some ⟨g, 0, none⟩ ∨ g = w.heap.size))) →
      K (act.put o.dst (.slice a' l2.length c')) w') : o.wp Try.prog act w K Q :=
  wp_append_1 s y 38 ho Try.underlying38 infoX rfl (by omega) (by omega) exprC_len a c hs hown x (exprC_one x) b c1 hy hcell l2 hl2 hlen hB h
theorem OwnX.readsIn {B : Nat} {w V : World} {a : Option Addr} {c d : Nat} {l : List XP} (h : OwnX B w a c l) (hV : New B w V) (hr : ∀ p ∈ l, p.R d V) : SlR 7 (ExprE d) V a c (l.map XP.e) :=
  Own.readsIn XP.e exprC_len h hV fun _b _o p hp hc => ⟨p.na, p.nc, p.da, p.dc, p.aa, p.ac, exprC_cells hc, hr p hp⟩
/-- what a call gives that makes an expression out of what is read in W0 -/
def RetX (W0 w : World) (d : Nat) (e : Expr) (r : Ending) (w' : World) : Prop :=
  ∃ p : XP, r = .returned p.val ∧ p.e = e ∧ Below w.heap.size w w' ∧ ∀ V, Ext W0 V → New w.heap.size w' V → p.R d V
end Go.Proofs.Ytmlldjcbijoheaa
