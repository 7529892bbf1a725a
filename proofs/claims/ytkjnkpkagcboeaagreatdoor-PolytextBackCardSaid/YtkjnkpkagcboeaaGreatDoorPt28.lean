/- Three cards of polytext in one text: Back, Texts, Offsets. -/
import Derived.Test.YtkjnkpkagcboeaaGreatDoorPt27
import Derived.Test.YtkjnkpkagcboeaaGreatDoorPt11
import Derived.Test.YtkjnkpkagcboeaaGreatDoorPt1
import Derived.JoinedCond
import Derived.Test.YtkjnkpkagcboeaaGreatDoorCards
import Derived.Test.YtkjnkpkagcboeaaGreatDoorTie
import Derived.ChangeMaps5
import Derived.WalkKit
import Derived.ProofKit
import Derived.OpenShut
import Derived.Deep.DeepHandedRow
import Derived.Lib.LaidTab
import Derived.Lay
set_option linter.all false
set_option maxRecDepth 100000
set_option maxHeartbeats 4000000
namespace Go.Proofs.YtkjnkpkagcboeaaGreatDoor
open Go.ChangeShapes Go.WideShapes Go.ChangeAt Go.RowKit
theorem cellsTerm : Tryz.prog.cellsOf 57 = 4 := by kernel_rfl
theorem cellsMono : Tryz.prog.cellsOf 55 = 1 := by kernel_rfl
section
variable {H : Type} {enc : TypeId × Value -> H} {W : World} {sp : Nat -> Bool} {held : Bool}
theorem open_mono {n : Nat} {cs : List Value} {y : DataW H × List MemPlace} (h : DataW.trod enc Tryz.prog W 0 sp held n 55 cs = some y) :
  ∃ a c zs, cs = [.slice a (List.length zs) c] /\ IntsR W a c zs := by
 obtain ⟨a, c, zs, h1, h2, _⟩ := open_sl Tryz.underlying55 cellsI (by omega) h (IntE .i64) (fun _ => 1) (fun m cs' y b o _ ht _ hc => conv_int Tryz.underlying3 m cs' y b o ht hc)
 exact ⟨a, c, zs, h1, h2⟩
theorem open_term {n : Nat} {cs : List Value} {y : DataW H × List MemPlace} (h : DataW.trod enc Tryz.prog W 0 sp held n 57 cs = some y) :
  ∃ (t : Trm) (p : RA), cs = [.bool t.coef.neg, .slice p.na t.coef.num.length p.nc, .slice p.da t.coef.den.length p.dc, .slice p.aa t.mono.length p.ac] /\ PartsR W p t.mono t.coef := by
 obtain ⟨xs, m, rfl, rfl, hcl, hxl, hf⟩ := DataW.trod_struct Tryz.underlying57 h
 rw [cellsTerm] at hcl
 obtain ⟨c0, c1, c2, c3, rfl⟩ := len4 hcl
 obtain ⟨y0, y1, rfl⟩ := len2 (show xs.length = 2 from hxl)
 ·
  have h0 := hf 0 _ rfl
  have h1 := hf 1 _ rfl
  simp [cellsRat, cellsMono] at h0 h1
  obtain ⟨neg, na, nc, num, da, dc, den, e0, r3, r4, _⟩ := open_rat h0
  obtain ⟨aa, ac, mono, e1, r2⟩ := open_mono h1
  simp at e0 e1
  obtain ⟨rfl, rfl, rfl⟩ := e0
  subst e1
  exact ⟨⟨⟨neg, num, den⟩, mono⟩, ⟨aa, ac, na, nc, da, dc⟩, rfl, r2, r3, r4⟩
theorem open_poly {n : Nat} {cs : List Value} {y : DataW H × List MemPlace} (h : DataW.trod enc Tryz.prog W 0 sp held n 23 cs = some y) :
  ∃ a c zs, cs = [.slice a (List.length zs) c] /\ PolyR W a c zs := by
 obtain ⟨a, c, zs, h1, h2, _⟩ := open_sl Tryz.underlying23 cellsTerm (by omega) h TrmE (fun _ => 0) (fun m cs' y b o _ ht _ hc => by
   obtain ⟨t, p, rfl, hP⟩ := open_term ht
   refine ⟨t, ⟨p, ⟨?_, ?_, ?_, ?_⟩, hP⟩, by omega⟩
   · have := hc 0 (by omega); simpa using this
   · have := hc 1 (by omega); simpa using this
   · have := hc 2 (by omega); simpa using this
   · have := hc 3 (by omega); simpa using this)
 exact ⟨a, c, zs, h1, h2⟩
end
end Go.Proofs.YtkjnkpkagcboeaaGreatDoor
namespace Go.Proofs.YtkjnkpkagcboeaaGreatDoor
open Go.ChangeShapes Go.WideShapes Go.ChangeAt Go.RowKit
section
variable {H : Type} {enc : TypeId × Value -> H} {W : World} {sp : Nat -> Bool} {held : Bool}
theorem open_strsa {r : Reach} {b0 : Nat} {v : Value} {d : DataW H} {p : List MemPlace} (hv : Value.okWide Tryz.prog W r b0 24 v) (h : DataW.Trod enc Tryz.prog W 0 sp held 24 v d p) :
  ∃ (l : List ByteArray) (a : Option Addr) (c : Nat), v = .slice a l.length c /\ StrsR W a c l /\ (l.map fun s => s.size + 1).sum + 1 <= Rows.uptoBulk d := by
 obtain ⟨n, hn⟩ := h
 obtain ⟨a, c, zs, h1, h2, h3⟩ := open_strsl hn
 obtain ⟨a', l', c', rfl⟩ := okWide_slice Tryz.underlying24 hv
 refine ⟨zs, a, c, ?_, h2, h3⟩
 simpa [Value.cells] using h1
end
end Go.Proofs.YtkjnkpkagcboeaaGreatDoor
namespace Go.Proofs.YtkjnkpkagcboeaaGreatDoor
open Go.RowKit Go.WideShapes Go.ChangeAt
section
variable {H : Type} {enc : TypeId × Value -> H} {W : World} {sp : Nat -> Bool} {held : Bool}
theorem open_polya {r : Reach} {b0 : Nat} {v : Value} {d : DataW H} {p : List MemPlace} (hv : Value.okWide Tryz.prog W r b0 23 v) (h : DataW.Trod enc Tryz.prog W 0 sp held 23 v d p) :
  ∃ (l : List Trm) (a : Option Addr) (c : Nat), v = .slice a l.length c /\ PolyR W a c l := by
 obtain ⟨n, hn⟩ := h
 obtain ⟨a, c, zs, h1, h2⟩ := open_poly hn
 obtain ⟨a', l', c', rfl⟩ := okWide_slice Tryz.underlying23 hv
 refine ⟨zs, a, c, ?_, h2⟩
 simpa [Value.cells] using h1
end
abbrev InP (w : World) (v : Value) : Prop := ∃ (l : List Trm) (a : Option Addr) (c : Nat), v = .slice a l.length c /\ PolyR w a c l
abbrev InS (w : World) (u : Value) (m : Nat) : Prop := ∃ (l : List ByteArray) (a : Option Addr) (c : Nat), u = .slice a l.length c /\ StrsR w a c l /\ (l.map fun s => s.size + 1).sum + 1 <= m
theorem polytextBack_law {v u : Value} {w : World} {m : Nat} (h : InP w v) (h' : InS w u m) (ht : TabW w) (he : ErrW w) :
  Calls Tryz.prog 4 #[v, u] w fun r w' => r = .returned (.bool true) /\ Below w.heap.size w w' := by
 obtain ⟨l, a, c, rfl, h1⟩ := h
 obtain ⟨n, b, d, rfl, h2, _⟩ := h'
 exact back_any l n a b c d w h1 h2 he ht
theorem polytextTexts_law {v v' u : Value} {w : World} {m : Nat} (h : InP w v) (h1 : InP w v') (h' : InS w u m) (ht : TabW w) (he : ErrW w) :
  Calls Tryz.prog 5 #[v, v', u] w fun r w' => r = .returned (.bool true) /\ Below w.heap.size w w' := by
 obtain ⟨l, a, c, rfl, h1'⟩ := h
 obtain ⟨l2, a2, c2, rfl, h2'⟩ := h1
 obtain ⟨n, b, d, rfl, h2, _⟩ := h'
 exact texts_any l l2 n a a2 b c c2 d w h1' h2' h2 he ht
theorem polytextOffsets_law {s : ByteArray} {u : Value} {w : World} {m : Nat} (h' : InS w u m) (ht : TabW w) (he : ErrW w) :
  Calls Tryz.prog 6 #[.string s, u] w fun r w' => r = .returned (.bool true) /\ Below w.heap.size w w' := by
 obtain ⟨n, b, d, rfl, h2, _⟩ := h'
 exact offsets_any s n b d w h2 he ht
end Go.Proofs.YtkjnkpkagcboeaaGreatDoor
namespace Go.Proofs.YtkjnkpkagcboeaaGreatDoor
open Go.ChangeShapes Go.WideShapes Go.ChangeAt Go.RowKit
theorem trodAll_below {H : Type} {enc : TypeId × Value -> H} {P : Program} (hl : laidOutB P = true) {W W' : World} (hB : Below W.heap.size W W') :
  ∀ (ts : List TypeId) (vs : List Value) (ds : List (DataW H)) (p : List MemPlace), (ts.all fun t => P.readableRec t && decide (t < P.types.size)) = true ->
   (∀ x ∈ p, x.block < W.heap.size) -> DataW.TrodAll enc P W 0 (fun _ => true) true ts vs ds p -> DataW.TrodAll enc P W' 0 (fun b => decide (b < W.heap.size)) true ts vs ds p := by
 intro ts
 induction ts with
 | nil => intro vs ds p _ _ h; cases vs <;> cases ds <;> first | exact h | exact h.elim
 | cons t ts ih =>
  intro vs ds p ha hp h
  cases vs with
  | nil => exact h.elim
  | cons v vs =>
   cases ds with
   | nil => exact h.elim
   | cons d ds =>
    obtain ⟨p1, q1, h1, h2, rfl⟩ := h
    simp only [List.all_cons, Bool.and_eq_true, decide_eq_true_eq] at ha
    exact ⟨p1, q1, Below.trod hl ha.1.1 ha.1.2 h1 hB (fun x hx => hp x (by simp [hx])), ih vs ds q1 ha.2 (fun x hx => hp x (by simp [hx])) h2, rfl⟩
theorem law_post {H : Type} {enc : TypeId × Value -> H} {P : Program} {f : Func} {s : ChangeSpec} {W W' : World} {args : Array Value} {ds gs : List (DataW H)} {before : List MemPlace} {tb : TypeId}
  (hl : laidOutB P = true) (hts : (f.params.toList.all fun t => P.readableRec t && decide (t < P.types.size)) = true) (hr : f.resultTypes = #[tb]) (hb : P.underlying tb = some .bool) (hv : s.vars = [])
  (hW : DataW.Whole enc P f.params.toList s.vars false W args.toList ds gs before) (hfn : s.fn H (ds ++ gs) = { results := [.lit (.bool true)], args := ds, vars := [] })
  (hB : Below W.heap.size W W') : s.post enc P f false true false false W args (.bool true) W' := by
 have hlt := hW.lt
 have hW0 := hW
 obtain ⟨p, q, hA, hV, rfl, _, _⟩ := hW
 rw [hv] at hV
 obtain ⟨rfl, rfl⟩ := trodVars_none hV
 refine ⟨ds, _, _, [], p, [], hW0, ?_, ?_, ?_, hB.frame _, fun h => by cases h⟩
 ·
  rw [hfn, hr]
  exact trodAll_mk1 (shut_bool hb true)
 ·
  rw [hfn]
  exact trodAll_below hl hB _ _ _ _ hts (fun x hx => by simpa using hlt x (by simp [hx])) hA
 ·
  rw [hfn, hv]
  rfl
end Go.Proofs.YtkjnkpkagcboeaaGreatDoor
namespace Go.Proofs.YtkjnkpkagcboeaaGreatDoor.polytextBack
open Go.ChangeShapes Go.WideShapes Go.ChangeAt Go.RowKit
set_option linter.unusedVariables false
theorem own : ownKnob Tryz.prog.godebug = none := by kernel_rfl
theorem laidOut : laidOutB Tryz.prog = true := by kernel_rfl
theorem readable : (Tryz.f4.params.toList.all fun t => Tryz.prog.readableRec t && decide (t < Tryz.prog.types.size)) = true := by kernel_rfl
theorem table {W : World} (h : laidMetH Tryz.prog Rows.polytextBackRow.laid W) : TabW W := by
 obtain ⟨ps, ⟨_, _, _, _, _, _, _, _, _, _, h1, _⟩, _⟩ := (show laidMet Tryz.prog Rows.polytextBackRow.laid W from h)
 obtain ⟨_, _, _, _, _, _, _, _, _, _, h2, _⟩ := h1
 obtain ⟨g', t', cs, fuel, p, q, hg', ht', hvar, hd, _, _⟩ := h2
 obtain rfl := Option.some.inj ((show Tryz.prog.globalNamed "internal/strconv.uint64pow10" = some 1 by kernel_rfl).symm.trans hg')
 obtain rfl := Option.some.inj ((show (Tryz.prog.globals[1]?).map (·.type) = some 213 by kernel_rfl).symm.trans ht')
 unfold TabW Lib.TabIs
 rw [hvar, <- Lib.cells_of_tab (zs := Lib.pow10Tab) (k := .u64) Tryz.underlying213 Tryz.underlying112 (by kernel_rfl) (by kernel_rfl) hd]
theorem errw {W : World} (h : laidMetH Tryz.prog Rows.polytextBackRow.laid W) : ErrW W := by
 obtain ⟨ps, ⟨_, _, _, _, _, _, _, _, _, _, h1, _⟩, _⟩ := (show laidMet Tryz.prog Rows.polytextBackRow.laid W from h)
 obtain ⟨_, _, _, _, _, _, _, _, _, _, h2, _⟩ := h1
 obtain ⟨_, _, _, _, _, _, _, _, _, _, h3, _⟩ := h2
 obtain ⟨g', t', cs, fuel, p, q, hg', ht', hvar, hd, _, _⟩ := h3
 obtain rfl := Option.some.inj ((show Tryz.prog.globalNamed "strconv.ErrRange" = some 5 by kernel_rfl).symm.trans hg')
 obtain rfl := Option.some.inj ((show (Tryz.prog.globals[5]?).map (·.type) = some 65 by kernel_rfl).symm.trans ht')
 obtain ⟨_, u, v, hcs, _, _⟩ := iface_of_trod (name := "*errors.errorString") Tryz.underlying65 hd
 have h0 := World.var?_cell Tryz.lays172.m16 hvar 0
 have h1 : cs[0]? = some (.iface u v) := by rw [<- Array.getElem?_toList, hcs]; rfl
 exact ⟨u, v, h0.trans h1⟩
theorem contract (H : Type) (enc : TypeId × Value -> H) (W : World) (base : Nat) (args : Array Value) (ds gs : List (DataW H)) (before : List MemPlace)
  (hval : ∀ (j : Nat) t v, Tryz.f4.params[j]? = some t -> args[j]? = some v -> Value.okWide Tryz.prog W .any base t v)
  (hW : DataW.Whole enc Tryz.prog Tryz.f4.params.toList Rows.polytextBackSpec.vars false W args.toList ds gs before) (hL : laidMetH Tryz.prog Rows.polytextBackRow.laid W) :
  Calls Tryz.prog 4 args W fun e W' => ∃ v, e = .returned v /\ Rows.polytextBackSpec.post enc Tryz.prog Tryz.f4 false true false false W args v W' := by
 have hW' := hW
 obtain ⟨p, q, hA0, hV, rfl, hfz, hnd⟩ := hW
 have hA : DataW.TrodAll enc Tryz.prog W 0 (fun _ => true) true Tryz.f4.params.toList args.toList ds p := hA0
 rw [Tryz.params4] at hA hval
 obtain ⟨v0, vs0, d0, ds0, p0, q0, hargs, rfl, rfl, h0, r0⟩ := trodAll_cons hA
 obtain ⟨v1, vs1, d1, ds1, p1, q1, rfl, rfl, rfl, h1, r1⟩ := trodAll_cons r0
 obtain ⟨rfl, rfl, rfl⟩ := trodAll_nil r1
 obtain rfl : args = #[v0, v1] := by cases args; simp_all
 obtain ⟨rfl, rfl⟩ := trodVars_none hV
 clear hA0 hA r0 r1
 have hx0 := open_polya (hval 0 23 v0 rfl rfl) h0
 have hx1 := open_strsa (hval 1 24 v1 rfl rfl) h1
 refine (polytextBack_law hx0 hx1 (table hL) (errw hL)).mono fun e W' ⟨he, hg⟩ => ?_
 subst he
 exact ⟨_, rfl, law_post laidOut readable (by kernel_rfl) Tryz.underlying4 rfl hW' (by rfl) hg⟩
noncomputable def laidWorld (os : Os) : World := World.laidAll Tryz.prog os Rows.polytextBackRow.laid
def wargs : Array Value := #[.slice none 0 0, .slice none 0 0]
theorem laid_met (os : Os) : laidMet Tryz.prog Rows.polytextBackRow.laid ((laidWorld os).forCall (fun _ _ => 0) ⟨#[], wargs, []⟩).memory :=
 laidMet_laidAll wargs (by kernel_rfl) (by kernel_rfl)
theorem reads (os : Os) {H : Type} (enc : TypeId × Value -> H) : ∃ places, DataW.whole enc Tryz.prog ((laidWorld os).forCall (fun _ _ => 0) ⟨#[], wargs, []⟩).memory Tryz.f4.params.toList Rows.polytextBackSpec.vars false wargs.toList 8 = some ([.nil, .nil], [], places) :=
 ⟨[], by kernel_rfl⟩
theorem lifted (os : Os) (started : os.Started) (H : Type) (enc : TypeId × Value -> H) (F : Stop.Interp) :
  ReturnsInHanded {} Tryz.checked os 4 .any ((OpenSpec.ofChange Rows.polytextBackSpec).preRow enc Tryz.prog Tryz.f4 Rows.polytextBackRow.domain false Rows.polytextBackRow.laid) (((OpenSpec.ofChange Rows.polytextBackSpec).at F).post enc Tryz.prog Tryz.f4 false true false false) := by
 obtain ⟨places, hx⟩ := reads os enc
 refine returnsInHanded_of_row (C := Tryz.checked) (s := OpenSpec.ofChange Rows.polytextBackSpec) own started (by kernel_rfl) Tryz.func4
  (witness_row_at (enc := enc) (C := Tryz.checked) false (laidWorld os) wargs (World.laidAll_os _ _ _) (by kernel_rfl) (by kernel_rfl) (by kernel_rfl)
   (OpenSpec.preRow_of_cond 8 hx (by kernel_rfl) (fun k hk => by cases hk) (by kernel_rfl) (laid_met os))) ?_
 intro W base args ds gs before hval hW _ _ _ hL _ _
 exact contract H enc W base args ds gs before hval hW hL
theorem said : Rows.PolytextBackSaid :=
 OpenClaim.holds_of_cond 4 Tryz.f4 rfl rfl rfl rfl rfl rfl rfl ⟨rfl, rfl, rfl, rfl, rfl⟩ rfl rfl rfl rfl rfl (by kernel_rfl) Tryz.func4 (by kernel_rfl)
  (of_decide_eq_true (by kernel_rfl)) (by unfold Func.isWrapper; first | (rw [if_pos (by decide +kernel)]; kernel_rfl) | (rw [if_neg (by decide +kernel)]; exact ⟨rfl, rfl⟩))
  (fun os started H enc _ F => by rw [OpenClaim.pre_eq_preRow]; exact lifted os started H enc F)
theorem plain (f : FuncId) (fn : Func) (hf : Tryz.pinned.checked.prog.funcNamed "geoprover/geoproverlaw07.PolytextBack" = some f) (hfn : Tryz.pinned.checked.prog.funcs[f]? = some fn) :
  true = Tryz.pinned.checked.prog.looks [] /\ ∀ (j : Nat) t, fn.params[j]? = some t -> Tryz.pinned.checked.prog.wantsStandIn t = false := by
 obtain rfl : f = 4 := Option.some.inj ((show Tryz.prog.funcNamed "geoprover/geoproverlaw07.PolytextBack" = some 4 by kernel_rfl).symm.trans hf) |>.symm
 obtain rfl : fn = Tryz.f4 := (Option.some.inj (Tryz.func4.symm.trans hfn)).symm
 refine ⟨by kernel_rfl, fun j t ht => ?_⟩
 rw [Tryz.params4] at ht
 obtain rfl | rfl : t = 23 \/ t = 24 := by simpa using Array.mem_of_getElem? ht
 · exact (show Tryz.prog.wantsStandIn 23 = false by kernel_rfl)
 · exact (show Tryz.prog.wantsStandIn 24 = false by kernel_rfl)
theorem card : Rows.PolytextBackCardSaid :=
 Claim7.holds_tied_plain_at .later [] _ _ _ _ said (fun _ h => by cases h) (by kernel_rfl) (fun _ h => by cases h) polytextBack_row_tie rfl ⟨rfl, rfl⟩ (by kernel_rfl) rfl plain (by kernel_rfl)
#print axioms said
#print axioms card
end Go.Proofs.YtkjnkpkagcboeaaGreatDoor.polytextBack
namespace Go.Proofs.YtkjnkpkagcboeaaGreatDoor.polytextTexts
open Go.ChangeShapes Go.WideShapes Go.ChangeAt Go.RowKit
set_option linter.unusedVariables false
theorem own : ownKnob Tryz.prog.godebug = none := by kernel_rfl
theorem laidOut : laidOutB Tryz.prog = true := by kernel_rfl
theorem readable : (Tryz.f5.params.toList.all fun t => Tryz.prog.readableRec t && decide (t < Tryz.prog.types.size)) = true := by kernel_rfl
theorem table {W : World} (h : laidMetH Tryz.prog Rows.polytextTextsRow.laid W) : TabW W := by
 obtain ⟨ps, ⟨_, _, _, _, _, _, _, _, _, _, h1, _⟩, _⟩ := (show laidMet Tryz.prog Rows.polytextTextsRow.laid W from h)
 obtain ⟨_, _, _, _, _, _, _, _, _, _, h2, _⟩ := h1
 obtain ⟨g', t', cs, fuel, p, q, hg', ht', hvar, hd, _, _⟩ := h2
 obtain rfl := Option.some.inj ((show Tryz.prog.globalNamed "internal/strconv.uint64pow10" = some 1 by kernel_rfl).symm.trans hg')
 obtain rfl := Option.some.inj ((show (Tryz.prog.globals[1]?).map (·.type) = some 213 by kernel_rfl).symm.trans ht')
 unfold TabW Lib.TabIs
 rw [hvar, <- Lib.cells_of_tab (zs := Lib.pow10Tab) (k := .u64) Tryz.underlying213 Tryz.underlying112 (by kernel_rfl) (by kernel_rfl) hd]
theorem errw {W : World} (h : laidMetH Tryz.prog Rows.polytextTextsRow.laid W) : ErrW W := by
 obtain ⟨ps, ⟨_, _, _, _, _, _, _, _, _, _, h1, _⟩, _⟩ := (show laidMet Tryz.prog Rows.polytextTextsRow.laid W from h)
 obtain ⟨_, _, _, _, _, _, _, _, _, _, h2, _⟩ := h1
 obtain ⟨_, _, _, _, _, _, _, _, _, _, h3, _⟩ := h2
 obtain ⟨g', t', cs, fuel, p, q, hg', ht', hvar, hd, _, _⟩ := h3
 obtain rfl := Option.some.inj ((show Tryz.prog.globalNamed "strconv.ErrRange" = some 5 by kernel_rfl).symm.trans hg')
 obtain rfl := Option.some.inj ((show (Tryz.prog.globals[5]?).map (·.type) = some 65 by kernel_rfl).symm.trans ht')
 obtain ⟨_, u, v, hcs, _, _⟩ := iface_of_trod (name := "*errors.errorString") Tryz.underlying65 hd
 have h0 := World.var?_cell Tryz.lays172.m16 hvar 0
 have h1 : cs[0]? = some (.iface u v) := by rw [<- Array.getElem?_toList, hcs]; rfl
 exact ⟨u, v, h0.trans h1⟩
theorem contract (H : Type) (enc : TypeId × Value -> H) (W : World) (base : Nat) (args : Array Value) (ds gs : List (DataW H)) (before : List MemPlace)
  (hval : ∀ (j : Nat) t v, Tryz.f5.params[j]? = some t -> args[j]? = some v -> Value.okWide Tryz.prog W .any base t v)
  (hW : DataW.Whole enc Tryz.prog Tryz.f5.params.toList Rows.polytextTextsSpec.vars false W args.toList ds gs before) (hL : laidMetH Tryz.prog Rows.polytextTextsRow.laid W) :
  Calls Tryz.prog 5 args W fun e W' => ∃ v, e = .returned v /\ Rows.polytextTextsSpec.post enc Tryz.prog Tryz.f5 false true false false W args v W' := by
 have hW' := hW
 obtain ⟨p, q, hA0, hV, rfl, hfz, hnd⟩ := hW
 have hA : DataW.TrodAll enc Tryz.prog W 0 (fun _ => true) true Tryz.f5.params.toList args.toList ds p := hA0
 rw [Tryz.params5] at hA hval
 obtain ⟨v0, vs0, d0, ds0, p0, q0, hargs, rfl, rfl, h0, r0⟩ := trodAll_cons hA
 obtain ⟨v1, vs1, d1, ds1, p1, q1, rfl, rfl, rfl, h1, r1⟩ := trodAll_cons r0
 obtain ⟨v2, vs2, d2, ds2, p2, q2, rfl, rfl, rfl, h2, r2⟩ := trodAll_cons r1
 obtain ⟨rfl, rfl, rfl⟩ := trodAll_nil r2
 obtain rfl : args = #[v0, v1, v2] := by cases args; simp_all
 obtain ⟨rfl, rfl⟩ := trodVars_none hV
 clear hA0 hA r0 r1 r2
 have hx0 := open_polya (hval 0 23 v0 rfl rfl) h0
 have hx1 := open_polya (hval 1 23 v1 rfl rfl) h1
 have hx2 := open_strsa (hval 2 24 v2 rfl rfl) h2
 refine (polytextTexts_law hx0 hx1 hx2 (table hL) (errw hL)).mono fun e W' ⟨he, hg⟩ => ?_
 subst he
 exact ⟨_, rfl, law_post laidOut readable (by kernel_rfl) Tryz.underlying4 rfl hW' (by rfl) hg⟩
noncomputable def laidWorld (os : Os) : World := World.laidAll Tryz.prog os Rows.polytextTextsRow.laid
def wargs : Array Value := #[.slice none 0 0, .slice none 0 0, .slice none 0 0]
theorem laid_met (os : Os) : laidMet Tryz.prog Rows.polytextTextsRow.laid ((laidWorld os).forCall (fun _ _ => 0) ⟨#[], wargs, []⟩).memory :=
 laidMet_laidAll wargs (by kernel_rfl) (by kernel_rfl)
theorem reads (os : Os) {H : Type} (enc : TypeId × Value -> H) : ∃ places, DataW.whole enc Tryz.prog ((laidWorld os).forCall (fun _ _ => 0) ⟨#[], wargs, []⟩).memory Tryz.f5.params.toList Rows.polytextTextsSpec.vars false wargs.toList 8 = some ([.nil, .nil, .nil], [], places) :=
 ⟨[], by kernel_rfl⟩
theorem lifted (os : Os) (started : os.Started) (H : Type) (enc : TypeId × Value -> H) (F : Stop.Interp) :
  ReturnsInHanded {} Tryz.checked os 5 .any ((OpenSpec.ofChange Rows.polytextTextsSpec).preRow enc Tryz.prog Tryz.f5 Rows.polytextTextsRow.domain false Rows.polytextTextsRow.laid) (((OpenSpec.ofChange Rows.polytextTextsSpec).at F).post enc Tryz.prog Tryz.f5 false true false false) := by
 obtain ⟨places, hx⟩ := reads os enc
 refine returnsInHanded_of_row (C := Tryz.checked) (s := OpenSpec.ofChange Rows.polytextTextsSpec) own started (by kernel_rfl) Tryz.func5
  (witness_row_at (enc := enc) (C := Tryz.checked) false (laidWorld os) wargs (World.laidAll_os _ _ _) (by kernel_rfl) (by kernel_rfl) (by kernel_rfl)
   (OpenSpec.preRow_of_cond 8 hx (by kernel_rfl) (fun k hk => by cases hk) (by kernel_rfl) (laid_met os))) ?_
 intro W base args ds gs before hval hW _ _ _ hL _ _
 exact contract H enc W base args ds gs before hval hW hL
theorem said : Rows.PolytextTextsSaid :=
 OpenClaim.holds_of_cond 5 Tryz.f5 rfl rfl rfl rfl rfl rfl rfl ⟨rfl, rfl, rfl, rfl, rfl⟩ rfl rfl rfl rfl rfl (by kernel_rfl) Tryz.func5 (by kernel_rfl)
  (of_decide_eq_true (by kernel_rfl)) (by unfold Func.isWrapper; first | (rw [if_pos (by decide +kernel)]; kernel_rfl) | (rw [if_neg (by decide +kernel)]; exact ⟨rfl, rfl⟩))
  (fun os started H enc _ F => by rw [OpenClaim.pre_eq_preRow]; exact lifted os started H enc F)
theorem plain (f : FuncId) (fn : Func) (hf : Tryz.pinned.checked.prog.funcNamed "geoprover/geoproverlaw07.PolytextTexts" = some f) (hfn : Tryz.pinned.checked.prog.funcs[f]? = some fn) :
  true = Tryz.pinned.checked.prog.looks [] /\ ∀ (j : Nat) t, fn.params[j]? = some t -> Tryz.pinned.checked.prog.wantsStandIn t = false := by
 obtain rfl : f = 5 := Option.some.inj ((show Tryz.prog.funcNamed "geoprover/geoproverlaw07.PolytextTexts" = some 5 by kernel_rfl).symm.trans hf) |>.symm
 obtain rfl : fn = Tryz.f5 := (Option.some.inj (Tryz.func5.symm.trans hfn)).symm
 refine ⟨by kernel_rfl, fun j t ht => ?_⟩
 rw [Tryz.params5] at ht
 obtain rfl | rfl | rfl : t = 23 \/ t = 23 \/ t = 24 := by simpa using Array.mem_of_getElem? ht
 · exact (show Tryz.prog.wantsStandIn 23 = false by kernel_rfl)
 · exact (show Tryz.prog.wantsStandIn 23 = false by kernel_rfl)
 · exact (show Tryz.prog.wantsStandIn 24 = false by kernel_rfl)
theorem card : Rows.PolytextTextsCardSaid :=
 Claim7.holds_tied_plain_at .later [] _ _ _ _ said (fun _ h => by cases h) (by kernel_rfl) (fun _ h => by cases h) polytextTexts_row_tie rfl ⟨rfl, rfl⟩ (by kernel_rfl) rfl plain (by kernel_rfl)
#print axioms said
#print axioms card
end Go.Proofs.YtkjnkpkagcboeaaGreatDoor.polytextTexts
namespace Go.Proofs.YtkjnkpkagcboeaaGreatDoor.polytextOffsets
open Go.ChangeShapes Go.WideShapes Go.ChangeAt Go.RowKit
set_option linter.unusedVariables false
theorem own : ownKnob Tryz.prog.godebug = none := by kernel_rfl
theorem laidOut : laidOutB Tryz.prog = true := by kernel_rfl
theorem readable : (Tryz.f6.params.toList.all fun t => Tryz.prog.readableRec t && decide (t < Tryz.prog.types.size)) = true := by kernel_rfl
theorem table {W : World} (h : laidMetH Tryz.prog Rows.polytextOffsetsRow.laid W) : TabW W := by
 obtain ⟨ps, ⟨_, _, _, _, _, _, _, _, _, _, h1, _⟩, _⟩ := (show laidMet Tryz.prog Rows.polytextOffsetsRow.laid W from h)
 obtain ⟨_, _, _, _, _, _, _, _, _, _, h2, _⟩ := h1
 obtain ⟨g', t', cs, fuel, p, q, hg', ht', hvar, hd, _, _⟩ := h2
 obtain rfl := Option.some.inj ((show Tryz.prog.globalNamed "internal/strconv.uint64pow10" = some 1 by kernel_rfl).symm.trans hg')
 obtain rfl := Option.some.inj ((show (Tryz.prog.globals[1]?).map (·.type) = some 213 by kernel_rfl).symm.trans ht')
 unfold TabW Lib.TabIs
 rw [hvar, <- Lib.cells_of_tab (zs := Lib.pow10Tab) (k := .u64) Tryz.underlying213 Tryz.underlying112 (by kernel_rfl) (by kernel_rfl) hd]
theorem errw {W : World} (h : laidMetH Tryz.prog Rows.polytextOffsetsRow.laid W) : ErrW W := by
 obtain ⟨ps, ⟨_, _, _, _, _, _, _, _, _, _, h1, _⟩, _⟩ := (show laidMet Tryz.prog Rows.polytextOffsetsRow.laid W from h)
 obtain ⟨_, _, _, _, _, _, _, _, _, _, h2, _⟩ := h1
 obtain ⟨_, _, _, _, _, _, _, _, _, _, h3, _⟩ := h2
 obtain ⟨g', t', cs, fuel, p, q, hg', ht', hvar, hd, _, _⟩ := h3
 obtain rfl := Option.some.inj ((show Tryz.prog.globalNamed "strconv.ErrRange" = some 5 by kernel_rfl).symm.trans hg')
 obtain rfl := Option.some.inj ((show (Tryz.prog.globals[5]?).map (·.type) = some 65 by kernel_rfl).symm.trans ht')
 obtain ⟨_, u, v, hcs, _, _⟩ := iface_of_trod (name := "*errors.errorString") Tryz.underlying65 hd
 have h0 := World.var?_cell Tryz.lays172.m16 hvar 0
 have h1 : cs[0]? = some (.iface u v) := by rw [<- Array.getElem?_toList, hcs]; rfl
 exact ⟨u, v, h0.trans h1⟩
theorem contract (H : Type) (enc : TypeId × Value -> H) (W : World) (base : Nat) (args : Array Value) (ds gs : List (DataW H)) (before : List MemPlace)
  (hval : ∀ (j : Nat) t v, Tryz.f6.params[j]? = some t -> args[j]? = some v -> Value.okWide Tryz.prog W .any base t v)
  (hW : DataW.Whole enc Tryz.prog Tryz.f6.params.toList Rows.polytextOffsetsSpec.vars false W args.toList ds gs before) (hL : laidMetH Tryz.prog Rows.polytextOffsetsRow.laid W) :
  Calls Tryz.prog 6 args W fun e W' => ∃ v, e = .returned v /\ Rows.polytextOffsetsSpec.post enc Tryz.prog Tryz.f6 false true false false W args v W' := by
 have hW' := hW
 obtain ⟨p, q, hA0, hV, rfl, hfz, hnd⟩ := hW
 have hA : DataW.TrodAll enc Tryz.prog W 0 (fun _ => true) true Tryz.f6.params.toList args.toList ds p := hA0
 rw [Tryz.params6] at hA hval
 obtain ⟨v0, vs0, d0, ds0, p0, q0, hargs, rfl, rfl, h0, r0⟩ := trodAll_cons hA
 obtain ⟨v1, vs1, d1, ds1, p1, q1, rfl, rfl, rfl, h1, r1⟩ := trodAll_cons r0
 obtain ⟨rfl, rfl, rfl⟩ := trodAll_nil r1
 obtain rfl : args = #[v0, v1] := by cases args; simp_all
 obtain ⟨rfl, rfl⟩ := trodVars_none hV
 clear hA0 hA r0 r1
 obtain ⟨a0, rfl, rfl, rfl, wa0⟩ := Go.ChangeMaps.open_string Tryz.underlying9 (hval 0 9 v0 rfl rfl) h0
 have hx1 := open_strsa (hval 1 24 v1 rfl rfl) h1
 refine (polytextOffsets_law hx1 (table hL) (errw hL)).mono fun e W' ⟨he, hg⟩ => ?_
 subst he
 exact ⟨_, rfl, law_post laidOut readable (by kernel_rfl) Tryz.underlying4 rfl hW' (by rfl) hg⟩
noncomputable def laidWorld (os : Os) : World := World.laidAll Tryz.prog os Rows.polytextOffsetsRow.laid
def wargs : Array Value := #[.string ⟨#[]⟩, .slice none 0 0]
theorem laid_met (os : Os) : laidMet Tryz.prog Rows.polytextOffsetsRow.laid ((laidWorld os).forCall (fun _ _ => 0) ⟨#[], wargs, []⟩).memory :=
 laidMet_laidAll wargs (by kernel_rfl) (by kernel_rfl)
theorem reads (os : Os) {H : Type} (enc : TypeId × Value -> H) : ∃ places, DataW.whole enc Tryz.prog ((laidWorld os).forCall (fun _ _ => 0) ⟨#[], wargs, []⟩).memory Tryz.f6.params.toList Rows.polytextOffsetsSpec.vars false wargs.toList 8 = some ([.lit (.string []), .nil], [], places) :=
 ⟨[], by kernel_rfl⟩
theorem lifted (os : Os) (started : os.Started) (H : Type) (enc : TypeId × Value -> H) (F : Stop.Interp) :
  ReturnsInHanded {} Tryz.checked os 6 .any ((OpenSpec.ofChange Rows.polytextOffsetsSpec).preRow enc Tryz.prog Tryz.f6 Rows.polytextOffsetsRow.domain false Rows.polytextOffsetsRow.laid) (((OpenSpec.ofChange Rows.polytextOffsetsSpec).at F).post enc Tryz.prog Tryz.f6 false true false false) := by
 obtain ⟨places, hx⟩ := reads os enc
 refine returnsInHanded_of_row (C := Tryz.checked) (s := OpenSpec.ofChange Rows.polytextOffsetsSpec) own started (by kernel_rfl) Tryz.func6
  (witness_row_at (enc := enc) (C := Tryz.checked) false (laidWorld os) wargs (World.laidAll_os _ _ _) (by kernel_rfl) (by kernel_rfl) (by kernel_rfl)
   (OpenSpec.preRow_of_cond 8 hx (by kernel_rfl) (fun k hk => by cases hk) (by kernel_rfl) (laid_met os))) ?_
 intro W base args ds gs before hval hW _ _ _ hL _ _
 exact contract H enc W base args ds gs before hval hW hL
theorem said : Rows.PolytextOffsetsSaid :=
 OpenClaim.holds_of_cond 6 Tryz.f6 rfl rfl rfl rfl rfl rfl rfl ⟨rfl, rfl, rfl, rfl, rfl⟩ rfl rfl rfl rfl rfl (by kernel_rfl) Tryz.func6 (by kernel_rfl)
  (of_decide_eq_true (by kernel_rfl)) (by unfold Func.isWrapper; first | (rw [if_pos (by decide +kernel)]; kernel_rfl) | (rw [if_neg (by decide +kernel)]; exact ⟨rfl, rfl⟩))
  (fun os started H enc _ F => by rw [OpenClaim.pre_eq_preRow]; exact lifted os started H enc F)
theorem plain (f : FuncId) (fn : Func) (hf : Tryz.pinned.checked.prog.funcNamed "geoprover/geoproverlaw07.PolytextOffsets" = some f) (hfn : Tryz.pinned.checked.prog.funcs[f]? = some fn) :
  true = Tryz.pinned.checked.prog.looks [] /\ ∀ (j : Nat) t, fn.params[j]? = some t -> Tryz.pinned.checked.prog.wantsStandIn t = false := by
 obtain rfl : f = 6 := Option.some.inj ((show Tryz.prog.funcNamed "geoprover/geoproverlaw07.PolytextOffsets" = some 6 by kernel_rfl).symm.trans hf) |>.symm
 obtain rfl : fn = Tryz.f6 := (Option.some.inj (Tryz.func6.symm.trans hfn)).symm
 refine ⟨by kernel_rfl, fun j t ht => ?_⟩
 rw [Tryz.params6] at ht
 obtain rfl | rfl : t = 9 \/ t = 24 := by simpa using Array.mem_of_getElem? ht
 · exact (show Tryz.prog.wantsStandIn 9 = false by kernel_rfl)
 · exact (show Tryz.prog.wantsStandIn 24 = false by kernel_rfl)
theorem card : Rows.PolytextOffsetsCardSaid :=
 Claim7.holds_tied_plain_at .later [] _ _ _ _ said (fun _ h => by cases h) (by kernel_rfl) (fun _ h => by cases h) polytextOffsets_row_tie rfl ⟨rfl, rfl⟩ (by kernel_rfl) rfl plain (by kernel_rfl)
#print axioms said
#print axioms card
end Go.Proofs.YtkjnkpkagcboeaaGreatDoor.polytextOffsets
namespace Go.Proofs.YtkjnkpkagcboeaaGreatDoor.polytextThree
theorem card : Rows.PolytextBackCardSaid /\ Rows.PolytextTextsCardSaid /\ Rows.PolytextOffsetsCardSaid := ⟨polytextBack.card, polytextTexts.card, polytextOffsets.card⟩
end Go.Proofs.YtkjnkpkagcboeaaGreatDoor.polytextThree
