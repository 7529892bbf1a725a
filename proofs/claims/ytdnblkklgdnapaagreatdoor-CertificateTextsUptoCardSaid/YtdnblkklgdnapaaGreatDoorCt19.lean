/- The row of CertificateTexts and its card: for each input the call returns true, and each argument reads behind the call as it read before. Condition: the arguments hold together at most 1048576 values and letters. The row lists three tables of Go's library, one of which (the powers of ten) the call reads. -/
import Derived.Test.YtdnblkklgdnapaaGreatDoorCt18
import Derived.Test.YtdnblkklgdnapaaGreatDoorCt10
import Derived.Test.YtdnblkklgdnapaaGreatDoorCt1
import Derived.JoinedCond
import Derived.Test.YtdnblkklgdnapaaGreatDoorCards
import Derived.Test.YtdnblkklgdnapaaGreatDoorTie
import Derived.ChangeMaps5
import Derived.WalkKit
import Derived.ProofKit
import Derived.OpenShut
import Derived.Deep.DeepHandedRow
import Derived.Lib.LaidTab
import Derived.Lay
set_option linter.all false
set_option maxRecDepth 100000
set_option maxHeartbeats 4000000
namespace Go.Proofs.YtdnblkklgdnapaaGreatDoor
open Go.ChangeShapes Go.WideShapes Go.ChangeAt Go.RowKit
theorem cellsRat : Tryz.prog.cellsOf 64 = 3 := by kernel_rfl
theorem cellsInt : Tryz.prog.cellsOf 62 = 2 := by kernel_rfl
theorem cellsNat : Tryz.prog.cellsOf 60 = 1 := by kernel_rfl
theorem cellsB : Tryz.prog.cellsOf 4 = 1 := by kernel_rfl
theorem cellsU16 : Tryz.prog.cellsOf 121 = 1 := by kernel_rfl
theorem list_sum_ones {α : Type} (l : List α) : (l.map fun _ => 1).sum = l.length := by induction l with
 | nil => rfl
 | cons x l ih => simp only [List.map_cons, List.sum_cons, ih, List.length_cons]; omega
section
variable {H : Type} {enc : TypeId × Value -> H} {W : World} {sp : Nat -> Bool} {held : Bool} {n : Nat}
theorem open_nat {cs : List Value} {y : DataW H × List MemPlace} (h : DataW.trod enc Tryz.prog W 0 sp held n 60 cs = some y) :
  ∃ a c zs, cs = [.slice a (List.length zs) c] /\ NatR W a c zs /\ zs.length + 1 <= Rows.uptoBulk y.1 := by
 obtain ⟨a, c, zs, h1, h2, h3⟩ := open_sl Tryz.underlying60 cellsU16 (by omega) h (IntE .u16) (fun _ => 1) (fun m cs' y b o _ ht _ hc => conv_int Tryz.underlying121 m cs' y b o ht hc)
 rw [list_sum_ones] at h3
 exact ⟨a, c, zs, h1, h2, h3⟩
theorem open_intst {cs : List Value} {y : DataW H × List MemPlace} (h : DataW.trod enc Tryz.prog W 0 sp held n 62 cs = some y) :
  ∃ b a c zs, cs = [.bool b, .slice a (List.length zs) c] /\ NatR W a c zs /\ zs.length + 2 <= Rows.uptoBulk y.1 := by
 obtain ⟨xs, m, rfl, rfl, hcl, hxl, hf⟩ := DataW.trod_struct Tryz.underlying62 h
 rw [cellsInt] at hcl
 obtain ⟨c0, c1, rfl⟩ := len2 hcl
 obtain ⟨y0, y1, rfl⟩ := len2 (show xs.length = 2 from hxl)
 ·
  have h0 := hf 0 _ rfl
  have h1 := hf 1 _ rfl
  simp [cellsB, cellsNat] at h0 h1
  obtain ⟨b, e0, rfl⟩ := DataW.trod_bool Tryz.underlying4 h0
  obtain ⟨a, c, zs, e1, h2, h3⟩ := open_nat h1
  simp at e0 e1; subst e0; subst e1
  refine ⟨b, a, c, zs, rfl, h2, ?_⟩
  simp [Rows.uptoBulk, Rows.uptoBulkAll] at h3 ⊢
  omega
theorem open_rat {cs : List Value} {y : DataW H × List MemPlace} (h : DataW.trod enc Tryz.prog W 0 sp held n 64 cs = some y) :
  ∃ b na nc num da dc den, cs = [.bool b, .slice na (List.length num) nc, .slice da (List.length den) dc] /\ NatR W na nc num /\ NatR W da dc den /\ num.length + den.length + 2 <= Rows.uptoBulk y.1 := by
 obtain ⟨xs, m, rfl, rfl, hcl, hxl, hf⟩ := DataW.trod_struct Tryz.underlying64 h
 rw [cellsRat] at hcl
 obtain ⟨c0, c1, c2, rfl⟩ := len3 hcl
 obtain ⟨y0, y1, rfl⟩ := len2 (show xs.length = 2 from hxl)
 ·
  have h0 := hf 0 _ rfl
  have h1 := hf 1 _ rfl
  simp [cellsInt, cellsNat] at h0 h1
  obtain ⟨b, na, nc, num, e0, h2, h3⟩ := open_intst h0
  obtain ⟨da, dc, den, e1, h4, h5⟩ := open_nat h1
  simp at e0 e1
  obtain ⟨rfl, rfl⟩ := e0
  subst e1
  refine ⟨b, na, nc, num, da, dc, den, rfl, h2, h4, ?_⟩
  simp [Rows.uptoBulk, Rows.uptoBulkAll] at h3 h5 ⊢
  omega
end
end Go.Proofs.YtdnblkklgdnapaaGreatDoor
namespace Go.Proofs.YtdnblkklgdnapaaGreatDoor
open Go.ChangeShapes Go.WideShapes Go.ChangeAt Go.RowKit
theorem cellsInts : Tryz.prog.cellsOf 23 = 1 := by kernel_rfl
theorem cellsI : Tryz.prog.cellsOf 3 = 1 := by kernel_rfl
theorem cellsS : Tryz.prog.cellsOf 9 = 1 := by kernel_rfl
section
variable {H : Type} {enc : TypeId × Value -> H} {W : World} {sp : Nat -> Bool} {held : Bool} {n : Nat}
theorem open_intsl {cs : List Value} {y : DataW H × List MemPlace} (h : DataW.trod enc Tryz.prog W 0 sp held n 23 cs = some y) :
  ∃ a c zs, cs = [.slice a (List.length zs) c] /\ IntsR W a c zs /\ zs.length + 1 <= Rows.uptoBulk y.1 := by
 obtain ⟨a, c, zs, h1, h2, h3⟩ := open_sl Tryz.underlying23 cellsI (by omega) h (IntE .i64) (fun _ => 1) (fun m cs' y b o _ ht _ hc => conv_int Tryz.underlying3 m cs' y b o ht hc)
 rw [list_sum_ones] at h3
 exact ⟨a, c, zs, h1, h2, h3⟩
theorem open_strsl {cs : List Value} {y : DataW H × List MemPlace} (h : DataW.trod enc Tryz.prog W 0 sp held n 26 cs = some y) :
  ∃ a c zs, cs = [.slice a (List.length zs) c] /\ StrsR W a c zs /\ (zs.map fun s => s.size + 1).sum + 1 <= Rows.uptoBulk y.1 :=
 open_sl Tryz.underlying26 cellsS (by omega) h StrE (fun s => s.size + 1) (fun m cs' y b o _ ht _ hc => conv_str Tryz.underlying9 m cs' y b o ht hc)
end
end Go.Proofs.YtdnblkklgdnapaaGreatDoor
namespace Go.Proofs.YtdnblkklgdnapaaGreatDoor
open Go.ChangeShapes Go.WideShapes Go.ChangeAt Go.RowKit
theorem cellsTerm : Tryz.prog.cellsOf 98 = 4 := by kernel_rfl
theorem cellsMono : Tryz.prog.cellsOf 96 = 1 := by kernel_rfl
theorem cellsPoly : Tryz.prog.cellsOf 56 = 1 := by kernel_rfl
theorem cellsPolys : Tryz.prog.cellsOf 22 = 1 := by kernel_rfl
theorem cellsCrt : Tryz.prog.cellsOf 25 = 4 := by kernel_rfl
section
variable {H : Type} {enc : TypeId × Value -> H} {W : World} {sp : Nat -> Bool} {held : Bool}
theorem open_mono {n : Nat} {cs : List Value} {y : DataW H × List MemPlace} (h : DataW.trod enc Tryz.prog W 0 sp held n 96 cs = some y) :
  ∃ a c zs, cs = [.slice a (List.length zs) c] /\ IntsR W a c zs := by
 obtain ⟨a, c, zs, h1, h2, _⟩ := open_sl Tryz.underlying96 cellsI (by omega) h (IntE .i64) (fun _ => 1) (fun m cs' y b o _ ht _ hc => conv_int Tryz.underlying3 m cs' y b o ht hc)
 exact ⟨a, c, zs, h1, h2⟩
theorem open_term {n : Nat} {cs : List Value} {y : DataW H × List MemPlace} (h : DataW.trod enc Tryz.prog W 0 sp held n 98 cs = some y) :
  ∃ (t : Trm) (p : RA), cs = [.bool t.coef.neg, .slice p.na t.coef.num.length p.nc, .slice p.da t.coef.den.length p.dc, .slice p.aa t.mono.length p.ac] /\ PartsR W p t.mono t.coef := by
 obtain ⟨xs, m, rfl, rfl, hcl, hxl, hf⟩ := DataW.trod_struct Tryz.underlying98 h
 rw [cellsTerm] at hcl
 obtain ⟨c0, c1, c2, c3, rfl⟩ := len4 hcl
 obtain ⟨y0, y1, rfl⟩ := len2 (show xs.length = 2 from hxl)
 ·
  have h0 := hf 0 _ rfl
  have h1 := hf 1 _ rfl
  simp [cellsRat, cellsMono] at h0 h1
  obtain ⟨neg, na, nc, num, da, dc, den, e0, r3, r4, _⟩ := open_rat h0
  obtain ⟨aa, ac, mono, e1, r2⟩ := open_mono h1
  simp at e0 e1
  obtain ⟨rfl, rfl, rfl⟩ := e0
  subst e1
  exact ⟨⟨⟨neg, num, den⟩, mono⟩, ⟨aa, ac, na, nc, da, dc⟩, rfl, r2, r3, r4⟩
theorem open_poly {n : Nat} {cs : List Value} {y : DataW H × List MemPlace} (h : DataW.trod enc Tryz.prog W 0 sp held n 56 cs = some y) :
  ∃ a c zs, cs = [.slice a (List.length zs) c] /\ PolyR W a c zs := by
 obtain ⟨a, c, zs, h1, h2, _⟩ := open_sl Tryz.underlying56 cellsTerm (by omega) h TrmE (fun _ => 0) (fun m cs' y b o _ ht _ hc => by
   obtain ⟨t, p, rfl, hP⟩ := open_term ht
   refine ⟨t, ⟨p, ⟨?_, ?_, ?_, ?_⟩, hP⟩, by omega⟩
   · have := hc 0 (by omega); simpa using this
   · have := hc 1 (by omega); simpa using this
   · have := hc 2 (by omega); simpa using this
   · have := hc 3 (by omega); simpa using this)
 exact ⟨a, c, zs, h1, h2⟩
theorem open_polys {n : Nat} {cs : List Value} {y : DataW H × List MemPlace} (h : DataW.trod enc Tryz.prog W 0 sp held n 22 cs = some y) :
  ∃ a c zs, cs = [.slice a (List.length zs) c] /\ PolysR W a c zs := by
 obtain ⟨a, c, zs, h1, h2, _⟩ := open_sl Tryz.underlying22 cellsPoly (by omega) h PolyE (fun _ => 0) (fun m cs' y b o _ ht _ hc => by
   obtain ⟨a, c, zs, rfl, hP⟩ := open_poly ht
   exact ⟨zs, ⟨a, c, by have := hc 0 (by omega); simpa using this, hP⟩, by omega⟩)
 exact ⟨a, c, zs, h1, h2⟩
theorem open_certificate {r : Reach} {b0 : Nat} {v : Value} {d : DataW H} {p : List MemPlace} (hv : Value.okWide Tryz.prog W r b0 25 v) (h : DataW.Trod enc Tryz.prog W 0 sp held 25 v d p) :
  ∃ (c : Crt) (p : CA), v = c.val p /\ CrtR W p c := by
 obtain ⟨cs, rfl, _⟩ := okWide_struct Tryz.underlying25 hv
 obtain ⟨n, hn⟩ := h
 obtain ⟨l⟩ := cs
 obtain ⟨xs, m, rfl, _, hcl, hxl, hf⟩ := DataW.trod_struct Tryz.underlying25 hn
 rw [cellsCrt] at hcl
 obtain ⟨c0, c1, c2, c3, hcs⟩ := len4 hcl
 simp only [Value.cells] at hcs
 have hcs' : l = [c0, c1, c2, c3] := by simpa using hcs
 subst hcs'
 obtain ⟨y0, y1, y2, y3, rfl⟩ := len4 (show xs.length = 4 from hxl)
 ·
  have h0 := hf 0 _ rfl
  have h1 := hf 1 _ rfl
  have h2 := hf 2 _ rfl
  have h3 := hf 3 _ rfl
  simp [Value.cells, cellsPolys, cellsInts, cellsI] at h0 h1 h2 h3
  obtain ⟨fa, fc, F, e0, r0⟩ := open_polys h0
  obtain ⟨wa, wc, P, e1, r1, _⟩ := open_intsl h1
  obtain ⟨pw, e2, rfl, w2⟩ := DataW.trod_int Tryz.underlying3 h2
  obtain ⟨ca, cc, C, e3, r3⟩ := open_polys h3
  simp at e0 e1 e2 e3
  subst e0 e1 e2 e3
  exact ⟨⟨F, P, pw, C⟩, ⟨fa, fc, wa, wc, ca, cc⟩, rfl, r0, r1, r3, inInt_of w2⟩
end
end Go.Proofs.YtdnblkklgdnapaaGreatDoor
namespace Go.Proofs.YtdnblkklgdnapaaGreatDoor
open Go.ChangeShapes Go.WideShapes Go.ChangeAt Go.RowKit
theorem fitL_fine {l : List (List Trm)} (h : fitL l = true) : ∀ p ∈ l, p.length <= 1000 /\ ∀ t ∈ p, t.coef.num.length <= 1000 /\ t.coef.den.length <= 1000 := fun p hp => by
 have h1 := (fitL_mem h).2 p hp
 exact ⟨by omega, fun t ht => by have := h1.2 t ht; omega⟩
theorem certificateTexts_crt (F C : List (List Trm)) (P : List Int) (n : Int) (names : List ByteArray) (fa wa ca na : Option Addr) (fc wc cc nc : Nat) (w : World) (h1 : PolysR w fa fc F) (h2 : IntsR w wa wc P) (h3 : PolysR w ca cc C) (hn : InInt n)
  (hN : StrsR w na nc names) (hnz : ∀ s ∈ names, s.size <= 1048576) (ht : TabW w) :
  Calls Tryz.prog 3 #[.agg #[.slice fa F.length fc, .slice wa P.length wc, .int .i64 n, .slice ca C.length cc], .slice na names.length nc] w fun e w' => e = .returned (.bool true) /\ Below w.heap.size w w' := by
 have CF := fun W (hW : Below w.heap.size w W) => fits30_any F C P n fa wa ca fc wc cc W (h1.ext (xbw hW)) (h2.ext (xbw hW)) (h3.ext (xbw hW))
 obtain ⟨b, hb⟩ : ∃ x, (fitL F && fitL C && decide (P.length <= 6)) = x := ⟨_, rfl⟩
 simp only [hb] at CF
 replace CF := Hd CF
 have C1 := fun (hf : fitL F = true) (hg : fitL C = true) (hl : names.length <= 1000) W (hW : Below w.heap.size w W) => certS_any F C P n names fa wa ca na fc wc cc nc W (h1.ext (xbw hW)) (h2.ext (xbw hW)) (h3.ext (xbw hW)) hn (fitL_fine hf) (fitL_fine hg) (by have := (fitL_mem hf).1; omega) (by have := (fitL_mem hg).1; omega) (hN.ext (xbw hW)) hl hnz (ht.below hW)
 have C2 := fun (hf : fitL F = true) (hg : fitL C = true) (hl : names.length <= 1000) W (hW : Below w.heap.size w W) => certR_any F C P n names fa wa ca na fc wc cc nc W (h1.ext (xbw hW)) (h2.ext (xbw hW)) (h3.ext (xbw hW)) hn (fitL_fine hf) (fitL_fine hg) (by have := (fitL_mem hf).1; omega) (by have := (fitL_mem hg).1; omega) (hN.ext (xbw hW)) hl hnz
 obtain ⟨T, hT⟩ : ∃ T, textC names F C P n (crtB ⟨F, P, n, C⟩) = T := ⟨_, rfl⟩
 simp only [hT] at C1 C2
 replace C1 := Hd C1; replace C2 := Hd C2
 have hfit : b = true -> fitL F = true /\ fitL C = true := fun h => by
  rw [<- hb] at h
  simp only [Bool.and_eq_true] at h
  exact h.1
 replace hfit := Hd hfit
 have hlN := hN.len
 clear h1 h2 h3 hN ht hb hT hnz hn
 go_enter Tryz.func3, Tryz.ntmps3
 go_wp2_with fail
 refine calls_gen (fun W => Blk W w.heap.size 25 #[.slice fa F.length fc, .slice wa P.length wc, .int .i64 n, .slice ca C.length cc] /\ Below w.heap.size w W) ⟨by ((with_reducible repeat first|assumption|(apply bF;focus omega)|apply bS|(apply bN;focus (simp;done))|apply bA|apply bD);all_goals rfl), by go_grown⟩ ?_
 rintro w0 ⟨h0, hw0⟩
 refine (CF.out w0 hw0).mono ?_
 rintro e w1 ⟨rfl, hb1⟩
 have hw1 := bth hw0 hb1
 replace h0 := h0.below' hb1
 clear hw0 hb1 CF
 cases b
 ·
  go_wp2
  go_ret
  exact ⟨rfl, hw1⟩
 by_cases h8 : 8 < names.length
 ·
  have d8 : decide (8 < names.length) = true := decide_eq_true h8
  go_wp2
  go_ret
  exact ⟨rfl, hw1⟩
 have d8 : decide (8 < names.length) = false := decide_eq_false h8
 obtain ⟨hfF, hfC⟩ := hfit.out rfl
 have D1 := Hd (C1.out hfF hfC (by omega))
 have D2 := Hd (C2.out hfF hfC (by omega))
 have x0 := h0.cell 0; have x1 := h0.cell 1; have x2 := h0.cell 2; have x3 := h0.cell 3
 clear C1 C2 hfF hfC hfit
 go_wp2_with fail
 refine (D1.out w1 hw1).mono ?_
 rintro e w2 ⟨rfl, hb2⟩
 have hw2 := bth hw1 hb2
 replace h0 := h0.below' hb2
 have y0 := h0.cell 0; have y1 := h0.cell 1; have y2 := h0.cell 2; have y3 := h0.cell 3
 clear x0 x1 x2 x3 D1 hb2 hw1
 go_wp2_with fail
 refine (D2.out w2 hw2).mono ?_
 rintro e w3 ⟨rfl, hb3⟩
 have hw3 := bth hw2 hb3
 clear y0 y1 y2 y3 D2 hb3 hw2 h0
 go_wp2
 go_ret
 exact ⟨rfl, hw3⟩
section
variable {H : Type} {enc : TypeId × Value -> H} {W : World} {sp : Nat -> Bool} {held : Bool}
theorem open_strsa {r : Reach} {b0 : Nat} {v : Value} {d : DataW H} {p : List MemPlace} (hv : Value.okWide Tryz.prog W r b0 26 v) (h : DataW.Trod enc Tryz.prog W 0 sp held 26 v d p) :
  ∃ (l : List ByteArray) (a : Option Addr) (c : Nat), v = .slice a l.length c /\ StrsR W a c l /\ (l.map fun s => s.size + 1).sum + 1 <= Rows.uptoBulk d := by
 obtain ⟨n, hn⟩ := h
 obtain ⟨a, c, zs, h1, h2, h3⟩ := open_strsl hn
 obtain ⟨a', l', c', rfl⟩ := okWide_slice Tryz.underlying26 hv
 refine ⟨zs, a, c, ?_, h2, h3⟩
 simpa [Value.cells] using h1
end
theorem sum_mem {l : List ByteArray} {m : Nat} (h : (l.map fun s => s.size + 1).sum <= m) : ∀ s ∈ l, s.size <= m := by
 induction l generalizing m with
 | nil => intro s hs; cases hs
 | cons x r ih =>
  intro s hs
  rw [List.map_cons, List.sum_cons] at h
  rcases List.mem_cons.1 hs with rfl | hs
  · omega
  · exact Nat.le_trans (ih (nlr _) s hs) (by omega)
theorem certificateTexts_law {v u : Value} {w : World} {m : Nat} (h : ∃ (c : Crt) (p : CA), v = c.val p /\ CrtR w p c) (h' : ∃ (l : List ByteArray) (a : Option Addr) (c : Nat), u = .slice a l.length c /\ StrsR w a c l /\ (l.map fun s => s.size + 1).sum + 1 <= m) (hm : m <= 1048576) (ht : TabW w) :
  Calls Tryz.prog 3 #[v, u] w fun r w' => r = .returned (.bool true) /\ Below w.heap.size w w' := by
 obtain ⟨⟨F, P, n, C⟩, ⟨fa, fc, wa, wc, ca, cc⟩, rfl, h1, h2, h3, h4⟩ := h
 obtain ⟨l, a, c, rfl, h5, h6⟩ := h'
 exact certificateTexts_crt F C P n l fa wa ca a fc wc cc c w h1 h2 h3 h4 h5 (sum_mem (by omega)) ht
end Go.Proofs.YtdnblkklgdnapaaGreatDoor
namespace Go.Proofs.YtdnblkklgdnapaaGreatDoor
open Go.ChangeShapes Go.WideShapes Go.ChangeAt Go.RowKit
theorem trodAll_below {H : Type} {enc : TypeId × Value -> H} {P : Program} (hl : laidOutB P = true) {W W' : World} (hB : Below W.heap.size W W') :
  ∀ (ts : List TypeId) (vs : List Value) (ds : List (DataW H)) (p : List MemPlace), (ts.all fun t => P.readableRec t && decide (t < P.types.size)) = true ->
   (∀ x ∈ p, x.block < W.heap.size) -> DataW.TrodAll enc P W 0 (fun _ => true) true ts vs ds p -> DataW.TrodAll enc P W' 0 (fun b => decide (b < W.heap.size)) true ts vs ds p := by
 intro ts
 induction ts with
 | nil => intro vs ds p _ _ h; cases vs <;> cases ds <;> first | exact h | exact h.elim
 | cons t ts ih =>
  intro vs ds p ha hp h
  cases vs with
  | nil => exact h.elim
  | cons v vs =>
   cases ds with
   | nil => exact h.elim
   | cons d ds =>
    obtain ⟨p1, q1, h1, h2, rfl⟩ := h
    simp only [List.all_cons, Bool.and_eq_true, decide_eq_true_eq] at ha
    exact ⟨p1, q1, Below.trod hl ha.1.1 ha.1.2 h1 hB (fun x hx => hp x (by simp [hx])), ih vs ds q1 ha.2 (fun x hx => hp x (by simp [hx])) h2, rfl⟩
theorem law_post {H : Type} {enc : TypeId × Value -> H} {P : Program} {f : Func} {s : ChangeSpec} {W W' : World} {args : Array Value} {ds gs : List (DataW H)} {before : List MemPlace} {tb : TypeId}
  (hl : laidOutB P = true) (hts : (f.params.toList.all fun t => P.readableRec t && decide (t < P.types.size)) = true) (hr : f.resultTypes = #[tb]) (hb : P.underlying tb = some .bool) (hv : s.vars = [])
  (hW : DataW.Whole enc P f.params.toList s.vars false W args.toList ds gs before) (hfn : s.fn H (ds ++ gs) = { results := [.lit (.bool true)], args := ds, vars := [] })
  (hB : Below W.heap.size W W') : s.post enc P f false true false false W args (.bool true) W' := by
 have hlt := hW.lt
 have hW0 := hW
 obtain ⟨p, q, hA, hV, rfl, _, _⟩ := hW
 rw [hv] at hV
 obtain ⟨rfl, rfl⟩ := trodVars_none hV
 refine ⟨ds, _, _, [], p, [], hW0, ?_, ?_, ?_, hB.frame _, fun h => by cases h⟩
 ·
  rw [hfn, hr]
  exact trodAll_mk1 (shut_bool hb true)
 ·
  rw [hfn]
  exact trodAll_below hl hB _ _ _ _ hts (fun x hx => by simpa using hlt x (by simp [hx])) hA
 ·
  rw [hfn, hv]
  rfl
end Go.Proofs.YtdnblkklgdnapaaGreatDoor
namespace Go.Proofs.YtdnblkklgdnapaaGreatDoor.certificateTextsUpto
open Go.ChangeShapes Go.WideShapes Go.ChangeAt Go.RowKit
set_option linter.unusedVariables false
theorem own : ownKnob Tryz.prog.godebug = none := by kernel_rfl
theorem laidOut : laidOutB Tryz.prog = true := by kernel_rfl
theorem readable : (Tryz.f3.params.toList.all fun t => Tryz.prog.readableRec t && decide (t < Tryz.prog.types.size)) = true := by kernel_rfl
theorem table {W : World} (h : laidMetH Tryz.prog Rows.certificateTextsUptoRow.laid W) : TabW W := by
 obtain ⟨ps, ⟨_, _, _, _, _, _, _, _, _, _, h1, _⟩, _⟩ := (show laidMet Tryz.prog Rows.certificateTextsUptoRow.laid W from h)
 obtain ⟨_, _, _, _, _, _, _, _, _, _, h2, _⟩ := h1
 obtain ⟨g', t', cs, fuel, p, q, hg', ht', hvar, hd, _, _⟩ := h2
 obtain rfl := Option.some.inj ((show Tryz.prog.globalNamed "internal/strconv.uint64pow10" = some 0 by kernel_rfl).symm.trans hg')
 obtain rfl := Option.some.inj ((show (Tryz.prog.globals[0]?).map (·.type) = some 254 by kernel_rfl).symm.trans ht')
 unfold TabW Lib.TabIs
 rw [hvar, <- Lib.cells_of_tab (zs := Lib.pow10Tab) (k := .u64) Tryz.underlying254 Tryz.underlying147 (by kernel_rfl) (by kernel_rfl) hd]
theorem contract (H : Type) (enc : TypeId × Value -> H) (W : World) (base : Nat) (args : Array Value) (ds gs : List (DataW H)) (before : List MemPlace)
  (hval : ∀ (j : Nat) t v, Tryz.f3.params[j]? = some t -> args[j]? = some v -> Value.okWide Tryz.prog W .any base t v)
  (hW : DataW.Whole enc Tryz.prog Tryz.f3.params.toList Rows.certificateTextsSpec.vars false W args.toList ds gs before) (hk : Rows.uptoSmall H (ds ++ gs) = true) (hL : laidMetH Tryz.prog Rows.certificateTextsUptoRow.laid W) :
  Calls Tryz.prog 3 args W fun e W' => ∃ v, e = .returned v /\ Rows.certificateTextsSpec.post enc Tryz.prog Tryz.f3 false true false false W args v W' := by
 have hW' := hW
 obtain ⟨p, q, hA0, hV, rfl, hfz, hnd⟩ := hW
 have hA : DataW.TrodAll enc Tryz.prog W 0 (fun _ => true) true Tryz.f3.params.toList args.toList ds p := hA0
 rw [Tryz.params3] at hA hval
 obtain ⟨v0, vs0, d0, ds0, p0, q0, hargs, rfl, rfl, h0, r0⟩ := trodAll_cons hA
 obtain ⟨v1, vs1, d1, ds1, p1, q1, rfl, rfl, rfl, h1, r1⟩ := trodAll_cons r0
 obtain ⟨rfl, rfl, rfl⟩ := trodAll_nil r1
 obtain rfl : args = #[v0, v1] := by cases args; simp_all
 obtain ⟨rfl, rfl⟩ := trodVars_none hV
 clear hA0 hA r0 r1
 have hbulk := of_decide_eq_true hk
 simp only [List.cons_append, List.nil_append, Rows.uptoBulkAll] at hbulk
 have hx0 := open_certificate (hval 0 25 v0 rfl rfl) h0
 have hx1 := open_strsa (hval 1 26 v1 rfl rfl) h1
 refine (certificateTexts_law hx0 hx1 (by omega) (table hL)).mono fun e W' ⟨he, hg⟩ => ?_
 subst he
 exact ⟨_, rfl, law_post laidOut readable (by kernel_rfl) Tryz.underlying4 rfl hW' (by rfl) hg⟩
noncomputable def laidWorld (os : Os) : World := World.laidAll Tryz.prog os Rows.certificateTextsUptoRow.laid
def wargs : Array Value := #[.agg #[.slice none 0 0, .slice none 0 0, .int .i64 0, .slice none 0 0], .slice none 0 0]
theorem laid_met (os : Os) : laidMet Tryz.prog Rows.certificateTextsUptoRow.laid ((laidWorld os).forCall (fun _ _ => 0) ⟨#[], wargs, []⟩).memory :=
 laidMet_laidAll wargs (by kernel_rfl) (by kernel_rfl)
theorem reads (os : Os) {H : Type} (enc : TypeId × Value -> H) : ∃ places, DataW.whole enc Tryz.prog ((laidWorld os).forCall (fun _ _ => 0) ⟨#[], wargs, []⟩).memory Tryz.f3.params.toList Rows.certificateTextsSpec.vars false wargs.toList 8 = some ([.agg [.nil, .nil, .lit (.int .i64 0), .nil], .nil], [], places) :=
 ⟨[], by kernel_rfl⟩
theorem lifted (os : Os) (started : os.Started) (H : Type) (enc : TypeId × Value -> H) (F : Stop.Interp) :
  ReturnsInHanded {} Tryz.checked os 3 .any ((Rows.OpenSpec.upto Rows.certificateTextsSpec).preRow enc Tryz.prog Tryz.f3 Rows.certificateTextsUptoRow.domain false Rows.certificateTextsUptoRow.laid) (((Rows.OpenSpec.upto Rows.certificateTextsSpec).at F).post enc Tryz.prog Tryz.f3 false true false false) := by
 obtain ⟨places, hx⟩ := reads os enc
 refine returnsInHanded_of_row (C := Tryz.checked) (s := Rows.OpenSpec.upto Rows.certificateTextsSpec) own started (by kernel_rfl) Tryz.func3
  (witness_row_at (enc := enc) (C := Tryz.checked) false (laidWorld os) wargs (World.laidAll_os _ _ _) (by kernel_rfl) (by kernel_rfl) (by kernel_rfl)
   (OpenSpec.preRow_of_cond 8 hx (by kernel_rfl) (fun k hk => by cases hk; kernel_rfl) (by kernel_rfl) (laid_met os))) ?_
 intro W base args ds gs before hval hW h1 hcond h3 hL h5 h6
 exact contract H enc W base args ds gs before hval hW (hcond _ rfl) hL
theorem said : Rows.CertificateTextsUptoSaid :=
 OpenClaim.holds_of_cond 3 Tryz.f3 rfl rfl rfl rfl rfl rfl rfl ⟨rfl, rfl, rfl, rfl, rfl⟩ rfl rfl rfl rfl rfl (by kernel_rfl) Tryz.func3 (by kernel_rfl)
  (of_decide_eq_true (by kernel_rfl)) (by unfold Func.isWrapper; first | (rw [if_pos (by decide +kernel)]; kernel_rfl) | (rw [if_neg (by decide +kernel)]; exact ⟨rfl, rfl⟩))
  (fun os started H enc _ F => by rw [OpenClaim.pre_eq_preRow]; exact lifted os started H enc F)
theorem plain (f : FuncId) (fn : Func) (hf : Tryz.pinned.checked.prog.funcNamed "geoprover/geoproverlaw30.CertificateTexts" = some f) (hfn : Tryz.pinned.checked.prog.funcs[f]? = some fn) :
  false = Tryz.pinned.checked.prog.looks [] /\ ∀ (j : Nat) t, fn.params[j]? = some t -> Tryz.pinned.checked.prog.wantsStandIn t = false := by
 obtain rfl : f = 3 := Option.some.inj ((show Tryz.prog.funcNamed "geoprover/geoproverlaw30.CertificateTexts" = some 3 by kernel_rfl).symm.trans hf) |>.symm
 obtain rfl : fn = Tryz.f3 := (Option.some.inj (Tryz.func3.symm.trans hfn)).symm
 refine ⟨by kernel_rfl, fun j t ht => ?_⟩
 rw [Tryz.params3] at ht
 obtain rfl | rfl : t = 25 \/ t = 26 := by simpa using Array.mem_of_getElem? ht
 · exact (show Tryz.prog.wantsStandIn 25 = false by kernel_rfl)
 · exact (show Tryz.prog.wantsStandIn 26 = false by kernel_rfl)
theorem card : Rows.CertificateTextsUptoCardSaid :=
 Claim7.holds_tied_plain_at .later [] _ _ _ _ said (fun _ h => by cases h) (by kernel_rfl) (fun _ h => by cases h) certificateTextsUpto_row_tie rfl ⟨rfl, rfl⟩ (by kernel_rfl) rfl plain (by kernel_rfl)
#print axioms said
#print axioms card
end Go.Proofs.YtdnblkklgdnapaaGreatDoor.certificateTextsUpto
