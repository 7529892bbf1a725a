/- Walk: certificate.Read (the program). -/
import Derived.Test.YtkjnkpkagcboeaaGreatDoorCe23
import Derived.Test.YtkjnkpkagcboeaaGreatDoorCe8
import Derived.Test.YtkjnkpkagcboeaaGreatDoorCe20
set_option linter.all false
set_option maxRecDepth 100000
set_option maxHeartbeats 4000000
namespace Go.Proofs.YtkjnkpkagcboeaaGreatDoor
open Go.ChangeShapes Go.WideShapes Go.ChangeAt Go.RowKit
theorem cellsTerm : Tryz.prog.cellsOf 57 = 4 := by kernel_rfl
theorem cellsMono : Tryz.prog.cellsOf 55 = 1 := by kernel_rfl
theorem cellsPoly : Tryz.prog.cellsOf 23 = 1 := by kernel_rfl
theorem cellsPolys : Tryz.prog.cellsOf 37 = 1 := by kernel_rfl
theorem cellsCrt : Tryz.prog.cellsOf 40 = 4 := by kernel_rfl
section
variable {H : Type} {enc : TypeId × Value -> H} {W : World} {sp : Nat -> Bool} {held : Bool}
theorem open_mono {n : Nat} {cs : List Value} {y : DataW H × List MemPlace} (h : DataW.trod enc Tryz.prog W 0 sp held n 55 cs = some y) :
  ∃ a c zs, cs = [.slice a (List.length zs) c] /\ IntsR W a c zs := by
 obtain ⟨a, c, zs, h1, h2, _⟩ := open_sl Tryz.underlying55 cellsI (by omega) h (IntE .i64) (fun _ => 1) (fun m cs' y b o _ ht _ hc => conv_int Tryz.underlying3 m cs' y b o ht hc)
 exact ⟨a, c, zs, h1, h2⟩
theorem open_term {n : Nat} {cs : List Value} {y : DataW H × List MemPlace} (h : DataW.trod enc Tryz.prog W 0 sp held n 57 cs = some y) :
  ∃ (t : Trm) (p : RA), cs = [.bool t.coef.neg, .slice p.na t.coef.num.length p.nc, .slice p.da t.coef.den.length p.dc, .slice p.aa t.mono.length p.ac] /\ PartsR W p t.mono t.coef := by
 obtain ⟨xs, m, rfl, rfl, hcl, hxl, hf⟩ := DataW.trod_struct Tryz.underlying57 h
 rw [cellsTerm] at hcl
 obtain ⟨c0, c1, c2, c3, rfl⟩ := len4 hcl
 obtain ⟨y0, y1, rfl⟩ := len2 (show xs.length = 2 from hxl)
 ·
  have h0 := hf 0 _ rfl
  have h1 := hf 1 _ rfl
  simp [cellsRat, cellsMono] at h0 h1
  obtain ⟨neg, na, nc, num, da, dc, den, e0, r3, r4, _⟩ := open_rat h0
  obtain ⟨aa, ac, mono, e1, r2⟩ := open_mono h1
  simp at e0 e1
  obtain ⟨rfl, rfl, rfl⟩ := e0
  subst e1
  exact ⟨⟨⟨neg, num, den⟩, mono⟩, ⟨aa, ac, na, nc, da, dc⟩, rfl, r2, r3, r4⟩
theorem open_poly {n : Nat} {cs : List Value} {y : DataW H × List MemPlace} (h : DataW.trod enc Tryz.prog W 0 sp held n 23 cs = some y) :
  ∃ a c zs, cs = [.slice a (List.length zs) c] /\ PolyR W a c zs := by
 obtain ⟨a, c, zs, h1, h2, _⟩ := open_sl Tryz.underlying23 cellsTerm (by omega) h TrmE (fun _ => 0) (fun m cs' y b o _ ht _ hc => by
   obtain ⟨t, p, rfl, hP⟩ := open_term ht
   refine ⟨t, ⟨p, ⟨?_, ?_, ?_, ?_⟩, hP⟩, by omega⟩
   · have := hc 0 (by omega); simpa using this
   · have := hc 1 (by omega); simpa using this
   · have := hc 2 (by omega); simpa using this
   · have := hc 3 (by omega); simpa using this)
 exact ⟨a, c, zs, h1, h2⟩
theorem open_polys {n : Nat} {cs : List Value} {y : DataW H × List MemPlace} (h : DataW.trod enc Tryz.prog W 0 sp held n 37 cs = some y) :
  ∃ a c zs, cs = [.slice a (List.length zs) c] /\ PolysR W a c zs := by
 obtain ⟨a, c, zs, h1, h2, _⟩ := open_sl Tryz.underlying37 cellsPoly (by omega) h PolyE (fun _ => 0) (fun m cs' y b o _ ht _ hc => by
   obtain ⟨a, c, zs, rfl, hP⟩ := open_poly ht
   exact ⟨zs, ⟨a, c, by have := hc 0 (by omega); simpa using this, hP⟩, by omega⟩)
 exact ⟨a, c, zs, h1, h2⟩
theorem open_certificate {r : Reach} {b0 : Nat} {v : Value} {d : DataW H} {p : List MemPlace} (hv : Value.okWide Tryz.prog W r b0 40 v) (h : DataW.Trod enc Tryz.prog W 0 sp held 40 v d p) :
  ∃ (c : Crt) (p : CA), v = c.val p /\ CrtR W p c := by
 obtain ⟨cs, rfl, _⟩ := okWide_struct Tryz.underlying40 hv
 obtain ⟨n, hn⟩ := h
 obtain ⟨l⟩ := cs
 obtain ⟨xs, m, rfl, _, hcl, hxl, hf⟩ := DataW.trod_struct Tryz.underlying40 hn
 rw [cellsCrt] at hcl
 obtain ⟨c0, c1, c2, c3, hcs⟩ := len4 hcl
 simp only [Value.cells] at hcs
 have hcs' : l = [c0, c1, c2, c3] := by simpa using hcs
 subst hcs'
 obtain ⟨y0, y1, y2, y3, rfl⟩ := len4 (show xs.length = 4 from hxl)
 ·
  have h0 := hf 0 _ rfl
  have h1 := hf 1 _ rfl
  have h2 := hf 2 _ rfl
  have h3 := hf 3 _ rfl
  simp [Value.cells, cellsPolys, cellsInts, cellsI] at h0 h1 h2 h3
  obtain ⟨fa, fc, F, e0, r0⟩ := open_polys h0
  obtain ⟨wa, wc, P, e1, r1, _⟩ := open_intsl h1
  obtain ⟨pw, e2, rfl, w2⟩ := DataW.trod_int Tryz.underlying3 h2
  obtain ⟨ca, cc, C, e3, r3⟩ := open_polys h3
  simp at e0 e1 e2 e3
  subst e0 e1 e2 e3
  exact ⟨⟨F, P, pw, C⟩, ⟨fa, fc, wa, wc, ca, cc⟩, rfl, r0, r1, r3, inInt_of w2⟩
end
end Go.Proofs.YtkjnkpkagcboeaaGreatDoor
namespace Go.Proofs.YtkjnkpkagcboeaaGreatDoor
open Go.RowKit Go.WideShapes Go.ChangeAt
abbrev InS30 (w : World) (u : Value) (m : Nat) : Prop := ∃ (l : List ByteArray) (a : Option Addr) (c : Nat), u = .slice a l.length c /\ StrsR w a c l /\ (l.map fun s => s.size + 1).sum + 1 <= m
theorem envC_of {w : World} {names : List ByteArray} {na : Option Addr} {nc : Nat} (h : StrsR w na nc names) (hM : MaxL w) (he : ErrW w) (hy : ErrS w) (ht : TabW w) : ∀ W, Below w.heap.size w W -> EnvC names na nc W :=
 fun W hW => ⟨h.ext (xbw hW), hM.ext (xbw hW), he.below hW, hy.below hW, ht.below hW⟩
end Go.Proofs.YtkjnkpkagcboeaaGreatDoor
namespace Go.Proofs.YtkjnkpkagcboeaaGreatDoor
open Go.RowKit
def Bk (a : Option Addr) (b : Nat) : Prop := ∃ q : Addr, a = some q /\ b = q.block
def Dj (a a' : Option Addr) : Prop := ∀ b, Bk a b -> ¬ Bk a' b
def Xc (g : Nat) (fa wa ca : Option Addr) : Nat -> Prop := fun b => b <= g \/ Bk fa b \/ Bk wa b \/ Bk ca b
theorem AllP.less {X Y : Nat -> Prop} {w : World} {hs : List PQ} {ps : List (List Tm)} (h : AllP X w hs ps) (e : ∀ b, Y b -> X b) : AllP Y w hs ps :=
 ⟨h.1, fun k s p h1 h2 => ⟨(h.2 k s p h1 h2).1, (h.2 k s p h1 h2).2.map fun _ r => r.less e⟩⟩
structure CrRows (g : Nat) (w : World) (F : List (List Tm)) (P : List Int) (C : List (List Tm)) (fa : Option Addr) (fc : Nat) (hf : List PQ) (wa : Option Addr) (wc : Nat) (ca : Option Addr) (cc : Nat) (hc : List PQ) : Prop where
 oF : OwnPq (g + 1) w fa fc hf
 oP : OwnI (g + 1) w wa wc P
 oC : OwnPq (g + 1) w ca cc hc
 aF : AllP (Xc g fa wa ca) w hf F
 aC : AllP (Xc g fa wa ca) w hc C
 dFP : Dj fa wa
 dFC : Dj fa ca
 dPC : Dj wa ca
theorem own_le {α : Type} {f : α -> List Value} {sz : Nat} {ty : TypeId} {B g : Nat} {w w' : World} {a : Option Addr} {c : Nat} {l : List α} (h : Own f sz ty B w a c l) (k : Fr (fun b => b <= g) w w') (hg : g < B) : Own f sz ty B w' a c l := by
 refine ⟨h.1, ?_⟩
 rcases h.2 with hn | ⟨q, cap, cur, e, hq, hh, rest⟩
 · exact .inl hn
 · exact .inr ⟨q, cap, cur, e, hq, (k.block q (Array.getElem?_eq_some_iff.1 hh).1 (by show ¬ q <= g; omega)).trans hh, rest⟩
theorem dj_none (a : Option Addr) : Dj none a := by rintro b ⟨q, h, _⟩; cases h
theorem Dj.symm {a a' : Option Addr} (h : Dj a a') : Dj a' a := fun b h1 h2 => h b h2 h1
theorem own_ne {a a' : Option Addr} (h : Dj a a') {n c : Nat} : ∀ q : Addr, a' = some q -> Value.ownBlock (.slice a n c) ≠ some q.block := by
 rintro q rfl e
 cases a with
 | none => simp [Value.ownBlock] at e
 | some p => simp [Value.ownBlock] at e; exact h p.block ⟨p, rfl, rfl⟩ ⟨q, rfl, e⟩
theorem dj_app {w : World} {α : Type} {f : α -> List Value} {sz : Nat} {t : TypeId} {B c : Nat} {l : List α} {a a' b : Option Addr} (h : Dj a b) (ho : Own f sz t B w b c l) (ha : ∃ g, a' = some ⟨g, 0, none⟩ /\ (a = some ⟨g, 0, none⟩ \/ g = w.heap.size)) : Dj a' b := by
 obtain ⟨k, rfl, h2⟩ := ha
 rintro x ⟨q, hq, rfl⟩ ⟨p, hp, e⟩
 injection hq with hq
 subst hq
 rcases h2 with h2 | h2
 · exact h k ⟨_, h2, rfl⟩ ⟨p, hp, e⟩
 ·
  have := (ho.lt hp).2
  have e : k = p.block := e
  omega
section
variable {g : Nat} {w w' : World} {F C : List (List Tm)} {P : List Int} {fa fa' wa wa' ca ca' : Option Addr} {fc fc' wc wc' cc cc' n : Nat} {hf hc : List PQ}
theorem xc_f {b : Nat} : Xr (fun b => b <= g \/ Bk wa b \/ Bk ca b) fa b ↔ Xc g fa wa ca b := by
 constructor
 ·
  rintro ((h | h | h) | h)
  · exact .inl h
  · exact .inr (.inr (.inl h))
  · exact .inr (.inr (.inr h))
  · exact .inr (.inl h)
 ·
  rintro (h | h | h | h)
  · exact .inl (.inl h)
  · exact .inr h
  · exact .inl (.inr (.inl h))
  · exact .inl (.inr (.inr h))
theorem xc_p {b : Nat} : Xr (fun b => b <= g \/ Bk fa b \/ Bk ca b) wa b ↔ Xc g fa wa ca b := by
 constructor
 ·
  rintro ((h | h | h) | h)
  · exact .inl h
  · exact .inr (.inl h)
  · exact .inr (.inr (.inr h))
  · exact .inr (.inr (.inl h))
 ·
  rintro (h | h | h | h)
  · exact .inl (.inl h)
  · exact .inl (.inr (.inl h))
  · exact .inr h
  · exact .inl (.inr (.inr h))
theorem xc_c {b : Nat} : Xr (fun b => b <= g \/ Bk fa b \/ Bk wa b) ca b ↔ Xc g fa wa ca b := by
 constructor
 ·
  rintro ((h | h | h) | h)
  · exact .inl h
  · exact .inr (.inl h)
  · exact .inr (.inr (.inl h))
  · exact .inr (.inr (.inr h))
 ·
  rintro (h | h | h | h)
  · exact .inl (.inl h)
  · exact .inl (.inr (.inl h))
  · exact .inl (.inr (.inr h))
  · exact .inr h
theorem CrRows.nil : CrRows g w [] [] [] none 0 [] none 0 none 0 [] := ⟨Own.nil, Own.nil, Own.nil, ⟨rfl, fun k s p h => by simp at h⟩, ⟨rfl, fun k s p h => by simp at h⟩, dj_none _, dj_none _, dj_none _⟩
variable (h : CrRows g w F P C fa fc hf wa wc ca cc hc)
include h
theorem CrRows.call (hb : Below w.heap.size w w') : CrRows g w' F P C fa fc hf wa wc ca cc hc := ⟨h.oF.below hb, h.oP.below hb, h.oC.below hb, h.aF.call hb, h.aC.call hb, h.dFP, h.dFC, h.dPC⟩
theorem CrRows.fr (k : Fg g w w') : CrRows g w' F P C fa fc hf wa wc ca cc hc :=
 ⟨own_fr h.oF k (Nat.lt_succ_self _), own_fr h.oP k (Nat.lt_succ_self _), own_fr h.oC k (Nat.lt_succ_self _), h.aF.step (k.agr.mono fun b hb => .inl (Nat.le_of_eq hb)), h.aC.step (k.agr.mono fun b hb => .inl (Nat.le_of_eq hb)), h.dFP, h.dFC, h.dPC⟩
theorem CrRows.fr2 (k : Fr (fun b => b <= g) w w') : CrRows g w' F P C fa fc hf wa wc ca cc hc :=
 ⟨own_le h.oF k (Nat.lt_succ_self _), own_le h.oP k (Nat.lt_succ_self _), own_le h.oC k (Nat.lt_succ_self _), h.aF.step (k.agr.mono fun b hb => .inl hb), h.aC.step (k.agr.mono fun b hb => .inl hb), h.dFP, h.dFC, h.dPC⟩
theorem CrRows.xlt (hg : g < w.heap.size) : ∀ b, Xc g fa wa ca b -> b < w.heap.size := by
 rintro b (hb | ⟨q, hq, rfl⟩ | ⟨q, hq, rfl⟩ | ⟨q, hq, rfl⟩)
 · exact Nat.lt_of_le_of_lt hb hg
 · exact (h.oF.lt hq).2
 · exact (h.oP.lt hq).2
 · exact (h.oC.lt hq).2
theorem CrRows.pushF {s : PQ} {p : List Tm} (hg : w.grownBy w' (Value.ownBlock (.slice fa n fc))) (ho : OwnPq (g + 1) w' fa' fc' (hf ++ [s])) (ha : ∃ g, fa' = some ⟨g, 0, none⟩ /\ (fa = some ⟨g, 0, none⟩ \/ g = w.heap.size)) (hp : PolX (Xc g fa wa ca) w s.a s.c p) (hn : s.n = p.length) :
  CrRows g w' (F ++ [p]) P C fa' fc' (hf ++ [s]) wa wc ca cc hc :=
 ⟨ho, h.oP.grown hg (own_ne h.dFP), h.oC.grown hg (own_ne h.dFC),
  (((h.aF.push hn hp).less fun b hb => xc_f.1 hb).app hg ha).less fun b hb => xc_f.2 hb,
  ((h.aC.less fun b hb => xc_f.1 hb).app hg ha).less fun b hb => xc_f.2 hb, dj_app h.dFP h.oP ha, dj_app h.dFC h.oC ha, h.dPC⟩
theorem CrRows.pushP {x : Int} (hg : w.grownBy w' (Value.ownBlock (.slice wa n wc))) (ho : OwnI (g + 1) w' wa' wc' (P ++ [x])) (ha : ∃ g, wa' = some ⟨g, 0, none⟩ /\ (wa = some ⟨g, 0, none⟩ \/ g = w.heap.size)) :
  CrRows g w' F (P ++ [x]) C fa fc hf wa' wc' ca cc hc :=
 ⟨h.oF.grown hg (own_ne h.dFP.symm), ho, h.oC.grown hg (own_ne h.dPC),
  ((h.aF.less fun b hb => xc_p.1 hb).app hg ha).less fun b hb => xc_p.2 hb,
  ((h.aC.less fun b hb => xc_p.1 hb).app hg ha).less fun b hb => xc_p.2 hb, (dj_app h.dFP.symm h.oF ha).symm, h.dFC, dj_app h.dPC h.oC ha⟩
theorem CrRows.pushC {s : PQ} {p : List Tm} (hg : w.grownBy w' (Value.ownBlock (.slice ca n cc))) (ho : OwnPq (g + 1) w' ca' cc' (hc ++ [s])) (ha : ∃ g, ca' = some ⟨g, 0, none⟩ /\ (ca = some ⟨g, 0, none⟩ \/ g = w.heap.size)) (hp : PolX (Xc g fa wa ca) w s.a s.c p) (hn : s.n = p.length) :
  CrRows g w' F P (C ++ [p]) fa fc hf wa wc ca' cc' (hc ++ [s]) :=
 ⟨h.oF.grown hg (own_ne h.dFC.symm), h.oP.grown hg (own_ne h.dPC.symm), ho,
  ((h.aF.less fun b hb => xc_c.1 hb).app hg ha).less fun b hb => xc_c.2 hb,
  (((h.aC.push hn hp).less fun b hb => xc_c.1 hb).app hg ha).less fun b hb => xc_c.2 hb, h.dFP, (dj_app h.dFC.symm h.oF ha).symm, (dj_app h.dPC.symm h.oP ha).symm⟩
end
def CrSt (g : Nat) (nv : Value) (m : Nat) (w : World) (c : CrQ) (part : Nat) : Prop := ∃ (fa : Option Addr) (fc : Nat) (hf : List PQ) (wa : Option Addr) (wc : Nat) (ca : Option Addr) (cc : Nat) (hc : List PQ),
 Blk w g 87 #[nv, .slice fa hf.length fc, .slice wa c.P.length wc, .int .i64 c.n, .slice ca hc.length cc, .int .i64 part] /\ CrRows g w c.F c.P c.C fa fc hf wa wc ca cc hc /\ hf.length <= m /\ c.P.length <= m /\ hc.length <= m
theorem CrSt.call {g : Nat} {nv : Value} {m : Nat} {w w' : World} {c : CrQ} {part : Nat} (h : CrSt g nv m w c part) (hb : Below w.heap.size w w') : CrSt g nv m w' c part := by
 obtain ⟨fa, fc, hf, wa, wc, ca, cc, hc, h1, h2, h3⟩ := h
 exact ⟨fa, fc, hf, wa, wc, ca, cc, hc, h1.below' hb, h2.call hb, h3⟩
theorem CrSt.fg {g q : Nat} {nv : Value} {m : Nat} {w w' : World} {c : CrQ} {part : Nat} (h : CrSt g nv m w c part) (k : Fg q w w') (hq : q < g) : CrSt g nv m w' c part := by
 obtain ⟨fa, fc, hf, wa, wc, ca, cc, hc, h1, h2, h3⟩ := h
 exact ⟨fa, fc, hf, wa, wc, ca, cc, hc, h1.fr k (by omega), h2.fr2 (k.mono fun b hb => by subst hb; exact Nat.le_of_lt hq), h3⟩
theorem below_own {α : Type} {f : α -> List Value} {sz : Nat} {t : TypeId} {g n c : Nat} {l : List α} {w0 w w' : World} {a : Option Addr} (hb : Below g w0 w) (ho : Own f sz t (g + 1) w a c l) (hs : g <= w.heap.size) (hg : w.grownBy w' (Value.ownBlock (.slice a n c))) : Below g w0 w' :=
 hb.grown hg hs fun k hk => by
  cases a with
  | none => simp [Value.ownBlock] at hk
  | some p => simp [Value.ownBlock] at hk; have := (ho.lt rfl).1; omega
theorem polysR_of {X : Nat -> Prop} {B : Nat} {w : World} {a : Option Addr} {c : Nat} {hs : List PQ} {ps : List (List Tm)} (ho : OwnPq B w a c hs) (hA : AllP X w hs ps) : PolysR w a c (ps.map (·.map trmOf)) := by
 refine ho.readsX (X := fun _ => False) (ps.map (·.map trmOf)) (by rw [List.length_map]; exact hA.1.symm) PQ.cs_len (Agr.refl _ w) (fun g hg hx => hx) fun b o k x y h1 h2 hc => ?_
 rw [List.getElem?_map] at h2
 obtain ⟨p, hp, rfl⟩ := Option.map_eq_some_iff.1 h2
 obtain ⟨e, hx⟩ := hA.2 k x p h1 hp
 refine ⟨x.a, x.c, ?_, hx.list⟩
 have := hc 0 _ rfl
 rw [List.length_map, <- e]
 simpa using this
theorem park {p : Prop} (h : Hid p) : p := h.out
def facLn (names : List ByteArray) (part : Nat) (c : CrQ) (s : List UInt8) : Option (Nat × CrQ) × Int := match cutL 32 s with
 | none => (none, 9)
 | some (d, x) => match numC 0 d with
  | none => (none, 9)
  | some k => if part = 1 then match polC names x with
    | (some p, _) => if p = [] then (none, 3) else (some (1, { c with F := c.F ++ [p], P := c.P ++ [(k : Int)] }), 0)
    | (none, e) => (none, e)
   else (none, 9)
def RetFa (g : Nat) (nv : Value) (m : Nat) (G : Option (Nat × CrQ) × Int) (w : World) (e : Ending) (w' : World) : Prop := ∃ er : Int, e = .returned (.int .i64 er) /\ Below g w w' /\
 (∀ q c' x, G = (some (q, c'), x) -> er = 0 /\ CrSt g nv m w' c' q) /\ (∀ x, G = (none, x) -> er = x /\ x ≠ 0)
theorem retFa_bad {g m : Nat} {nv : Value} {G : Option (Nat × CrQ) × Int} {er : Int} {w w' : World} (hG : G = (none, er)) (h0 : er ≠ 0) (hb : Below g w w') : RetFa g nv m G w (.returned (.int .i64 er)) w' :=
 ⟨er, rfl, hb, (fun q c' x e => by rw [hG] at e; injection e with e; cases e), fun x e => by rw [hG] at e; injection e with _ e; exact ⟨e, by rw [<- e]; exact h0⟩⟩
theorem retFa_ok {g m q : Nat} {nv : Value} {c' : CrQ} {G : Option (Nat × CrQ) × Int} {w w' : World} (hG : G = (some (q, c'), 0)) (hb : Below g w w') (h : CrSt g nv m w' c' q) : RetFa g nv m G w (.returned (.int .i64 0)) w' :=
 ⟨0, rfl, hb, (fun q c'' x e => by rw [hG] at e; injection e with e _; injection e with e; injection e with e1 e2; subst e1 e2; exact ⟨rfl, h⟩), fun x e => by rw [hG] at e; injection e with e; cases e⟩
theorem factor_any (g : Nat) (names : List ByteArray) (na : Option Addr) (nc : Nat) (s : ByteArray) (c : CrQ) (part m : Nat) (w : World) (hst : CrSt g (.slice na names.length nc) m w c part) (hm : m <= 16000000)
  (hE : ∀ W, Below g w W -> EnvC names na nc W) (hnz : ∀ x ∈ names, x.size <= 1048576) (hnl : names.length <= 1000) (hs : s.size < 4294967281) (hW : ∀ d x, cutL 32 s.data.toList = some (d, x) -> Wok names x) :
  Calls Tryz.prog 91 #[.pointer (some ⟨g, 0, none⟩), .string s] w (RetFa g (.slice na names.length nc) (m + 1) (facLn names part c s.data.toList) w) := by
 obtain ⟨fa, fc, hf, wa, wc, ca, cc, hc, hb, hr, hm1, hm2, hm3⟩ := hst
 have hl := hb.lt
 have HE := Hd (fun W (hW : Below w.heap.size w W) => hE W (hW.mono (Nat.le_of_lt hl)))
 have CC := cut_any s w (HE.out w brf).2.1 hs
 obtain ⟨G, hG⟩ : ∃ G, facLn names part c s.data.toList = G := ⟨_, rfl⟩
 rw [hG]
 unfold facLn at hG
 have hlen : s.data.toList.length = s.size := Array.length_toList
 have HB := Hd hb; have HR := Hd hr; have HM := Hd (And.intro hm1 (And.intro hm2 hm3)); have HNZ := Hd hnz
 unfold cutC at CC
 clear hE hb hr hm1 hm2 hm3 hnz
 cases hcut : cutL 32 s.data.toList with
 | none =>
  rw [hcut] at hG CC
  have CN := fun W (hW : Below w.heap.size w W) => number_any (ofL s.data.toList) W (by rw [ofL_size]; omega) (HE.out W hW).2.2.1 (HE.out W hW).2.2.2.1 (HE.out W hW).2.2.2.2
  dsimp only at CC hG
  obtain ⟨S1, hS1⟩ : ∃ z, ofL s.data.toList = z := ⟨_, rfl⟩
  obtain ⟨S2, hS2⟩ : ∃ z, ofL [] = z := ⟨_, rfl⟩
  obtain ⟨NG, hNG⟩ : ∃ z, numC 0 S1.data.toList = z := ⟨_, rfl⟩
  rw [hS1] at CC CN
  rw [hNG] at CN
  rw [hS2] at CC
  replace CN := Hd CN; replace CC := Hd CC
  clear hW hcut hlen hS1 hS2 hNG
  go_enter Tryz.func91, Tryz.ntmps91
  go_wp2_with fail
  refine CC.out.mono ?_
  rintro e w1 ⟨rfl, hb1⟩
  go_wp2_with fail
  refine (CN.out w1 hb1).mono ?_
  rintro e w2 ⟨n, b, rfl, hb2, _, _⟩
  go_wp2
  go_ret
  exact retFa_bad hG.symm (by decide) ((bth hb1 hb2).mono (Nat.le_of_lt hl))
 | some dx =>
  obtain ⟨d, x⟩ := dx
  have hWk := hW d x hcut
  obtain ⟨hcs, _⟩ := cutL_some 32 _ _ _ hcut
  have hll := congrArg List.length hcs
  rw [List.length_append, List.length_cons, hlen] at hll
  rw [hcut] at hG CC
  dsimp only at hG CC
  have CN := fun W (hW : Below w.heap.size w W) => number_any (ofL d) W (by rw [ofL_size]; omega) (HE.out W hW).2.2.1 (HE.out W hW).2.2.2.1 (HE.out W hW).2.2.2.2
  rw [data_ofL] at CN
  have hxs : (ofL x).size <= 281474976710656 := by rw [ofL_size]; omega
  obtain ⟨S1, hS1⟩ : ∃ z, ofL d = z := ⟨_, rfl⟩
  rw [hS1] at CC CN
  obtain ⟨S2, hS2⟩ : ∃ z, ofL x = z := ⟨_, rfl⟩
  have hx2 : x = S2.data.toList := by rw [<- hS2, data_ofL]
  rw [hS2] at CC hxs
  rw [hx2] at hG hWk
  have CP := fun W (hW : Below w.heap.size w W) => polyC_any (Xc g fa wa ca) g names na nc S2 _ _ _ _ _ W (fun b hb => ltl (HR.out.xlt hl b hb) hW.size) (HB.out.below' hW) (fun V hV => HE.out V (bth hW hV)) HNZ.out hnl hxs hWk
  obtain ⟨NG, hNG⟩ : ∃ z, numC 0 d = z := ⟨_, rfl⟩
  rw [hNG] at CN hG
  obtain ⟨PG, hPG⟩ : ∃ z, polC names S2.data.toList = z := ⟨_, rfl⟩
  rw [hPG] at CP hG
  replace CN := Hd CN; replace CC := Hd CC; replace CP := Hd CP
  clear hW hcut hlen hS1 hNG hWk hcs hll hxs hx2 hS2 hPG
  cases NG with
  | none =>
   dsimp only at hG
   go_enter Tryz.func91, Tryz.ntmps91
   go_wp2_with fail
   refine CC.out.mono ?_
   rintro e w1 ⟨rfl, hb1⟩
   go_wp2_with fail
   refine (CN.out w1 hb1).mono ?_
   rintro e w2 ⟨n, b, rfl, hb2, _, hbn⟩
   obtain rfl := hbn rfl
   clear hbn
   go_wp2
   go_ret
   exact retFa_bad hG.symm (by decide) ((bth hb1 hb2).mono (Nat.le_of_lt hl))
  | some k =>
   dsimp only at hG
   by_cases hp1 : part = 1
   ·
    subst hp1
    rw [if_pos rfl] at hG
    have hgw := Hd (Nat.le_of_lt hl)
    go_enter Tryz.func91, Tryz.ntmps91
    go_wp2_with fail
    refine CC.out.mono ?_
    rintro e w1 ⟨rfl, hb1⟩
    go_wp2_with fail
    refine (CN.out w1 hb1).mono ?_
    rintro e w2 ⟨n, b, rfl, hb2, hnk, _⟩
    obtain ⟨rfl, rfl⟩ := hnk k rfl
    have hw2 := bth hb1 hb2
    have hB2 := HB.out.below' hw2
    have z5 := hB2.cell 5
    have hl2 := hB2.lt
    clear hnk CC CN
    go_wp2_with fail
    refine (CP.out w2 hw2).mono ?_
    rintro e w3 ⟨a, n, cp, er, rfl, hb3, hok, hbad⟩
    have hw3 := bth hw2 hb3
    clear CP z5 hl2 hB2
    obtain ⟨o, er'⟩ := PG
    cases o with
    | none =>
     obtain ⟨rfl, h0⟩ := hbad er' rfl
     dsimp only at hG
     have hne : (er != 0) = true := by simpa using h0
     have h0' := Hd h0
     clear h0 hok hbad
     go_wp2
     go_ret
     exact retFa_bad hG.symm h0'.out (hw3.mono hgw.out)
    | some p =>
     obtain ⟨rfl, hP, rfl⟩ := hok p er' rfl
     dsimp only at hG
     clear hok hbad
     by_cases hpe : p = []
     ·
      rw [if_pos hpe] at hG
      subst hpe
      clear hP
      go_wp2
      go_ret
      exact retFa_bad hG.symm (by decide) (hw3.mono hgw.out)
     ·
      rw [if_neg hpe] at hG
      have hpl : ((p.length : Int) == 0) = false := by
       rw [beq_eq_false_iff_ne]
       intro e
       exact hpe (List.eq_nil_of_length_eq_zero (by omega))
      have hpl2 : (p.length == 0) = false := by
       rw [beq_eq_false_iff_ne]
       intro e
       exact hpe (List.eq_nil_of_length_eq_zero e)
      obtain ⟨n, hn⟩ : ∃ n, p.length = n := ⟨_, rfl⟩
      rw [hn] at hpl hpl2 ⊢
      have hr3 := HR.out.call hw3
      have hB3 := HB.out.below' hw3
      have z1 := hB3.cell 1
      have hl3 := hB3.lt
      have hB4 := Hd (bA (o := .cells #[.slice a n cp] 23) hB3)
      have hr4 := Hd (hr3.call (brf.alloc (nlr _) (.cells #[.slice a n cp] 23)))
      have hP4 := Hd (show PolX (Xc g fa wa ca) (w3.alloc (.cells #[.slice a n cp] 23)) a cp p from hP.step ((Agr.refl _ _).alloc _))
      have hw4 := Hd (show Below g w (w3.alloc (.cells #[.slice a n cp] 23)) from (hw3.mono hgw.out).alloc (Nat.le_of_lt hl3) _)
      have hcl : Hid (∀ j v, (PQ.cs ⟨n, a, cp⟩)[j]? = some v -> (w3.alloc (.cells #[.slice a n cp] 23)).cell? ⟨w3.heap.size, j, none⟩ = some v) := Hd fun j v hj => by
       cases j with
       | zero => simp [PQ.cs] at hj; subst hj; exact (Blk.new w3 23 #[.slice a n cp]).cell 0
       | succ j => simp [PQ.cs] at hj
      have hl4 := Hd (show g < w3.heap.size from hl3)
      have hn' := Hd hn; have hpe' := Hd hpe
      have hG' := Hd hG
      clear hP hr3 hB3 hw3 hn hpe hG hw2 hb3
      go_wp2_with (at_builtin; go_must (refine wpList_append_1 (B := g + 1) rfl (.tmp 53) (.tmp 55) 37 rfl Tryz.underlying37 infoPq rfl (by omega) (by omega) PQ.cs_len fa fc (l := hf) rfl hr4.out.oF ⟨n, a, cp⟩ (PQ.cs_one _) w3.heap.size 1 rfl hcl.out (hf ++ [⟨n, a, cp⟩]) rfl (by have := HM.out.1; rw [List.length_append]; simp; omega) (by have := hl4.out; simp; omega) ?_); intro fa2 fc2 w5 ho5 hg5 ha5; refine park ?_)
      refine Hd ?_
      have hB5 := hB4.out.under hr4.out.oF (Nat.lt_succ_self _) hg5
      have hr5 := Hd (hr4.out.pushF hg5 ho5 ha5 hP4.out hn'.out.symm)
      have hw5 := Hd (below_own hw4.out hr4.out.oF (by have := hl4.out; simp; omega) hg5)
      have hll : (hf ++ [(⟨n, a, cp⟩ : PQ)]).length = hf.length + 1 := by simp
      have y1 := hB5.cell 1
      have y2 := hB5.cell 2
      have f1 := hB5.frozen 1
      have hl5 := hB5.lt
      have hB5' := Hd hB5
      clear z1 hl3 hB4 hr4 hP4 hw4 hcl hl4 ho5 hg5 ha5 hB5
      obtain ⟨hf2, hhf2⟩ : ∃ z, hf ++ [(⟨n, a, cp⟩ : PQ)] = z := ⟨_, rfl⟩
      rw [hhf2] at hr5 hll
      rw [<- hll]
      have hll' := Hd hll
      clear hhf2 hll
      go_wp2_with (at_builtin; go_must (refine world_gen (fun W => Blk W g 87 #[.slice na names.length nc, .slice fa2 hf2.length fc2, .slice wa c.P.length wc, .int .i64 c.n, .slice ca hc.length cc, .int .i64 ((1 : Nat) : Int)] /\ Blk W w5.heap.size 3 #[.int .i64 (k : Int)] /\ CrRows g W (c.F ++ [p]) c.P c.C fa2 fc2 hf2 wa wc ca cc hc /\ Below g w W) ⟨bA (bS hB5'.out rfl), bN (by simp), (hr5.out.fr ((Fr.refl _ _).setc (.inl rfl))).call (brf.alloc (nlr _) _), (hw5.out.setCell (nlr _) _).alloc (by have := hl5; simp; omega) _⟩ ?_); rintro w7 ⟨hB7, hb7, hr7, hw7⟩; refine park ?_)
      refine Hd ?_
      have x7 := hb7.cell 0
      have hl7 := hB7.lt
      have hB7' := Hd hB7; have hr7' := Hd hr7; have hw7' := Hd hw7; have hl7' := Hd hl7
      clear y1 y2 f1 hl5 hB5' hr5 hw5 hB7 hb7 hr7 hw7 hl7
      go_wp2_with (at_builtin; go_must (refine append_int rfl (.tmp 65) (.tmp 67) rfl wa wc rfl hr7'.out.oP (k : Int) w5.heap.size 1 rfl x7 (c.P ++ [(k : Int)]) rfl (by have := HM.out.2.1; rw [List.length_append]; simp; omega) (by have := hl7'.out; omega) ?_); intro wa2 wc2 w8 ho8 hg8 ha8; refine park ?_)
      refine Hd ?_
      have hB8 := hB7'.out.under hr7'.out.oP (Nat.lt_succ_self _) hg8
      have hr8 := Hd (hr7'.out.pushP hg8 ho8 ha8)
      have hw8 := Hd (below_own hw7'.out hr7'.out.oP (Nat.le_of_lt hl7'.out) hg8)
      have f2 := hB8.frozen 2
      have x2 := hB8.cell 2
      have hl8 := hB8.lt
      have hB8' := Hd hB8
      have hPl : (c.P ++ [(k : Int)]).length = c.P.length + 1 := by simp
      replace hPl := Hd hPl
      clear x7 hB7' hr7' hw7' hl7' ho8 hg8 ha8 hB8
      go_wp2
      go_ret
      refine retFa_ok hG'.out.symm (hw8.out.setCell (nlr _) _) ⟨fa2, fc2, hf2, wa2, wc2, ca, cc, hc, bS hB8'.out (by rw [<- hPl.out]; rfl), hr8.out.fr ((Fr.refl _ _).setc (.inl rfl)), ?_, ?_, ?_⟩
      · have := HM.out.1; have := hll'.out; omega
      · have := HM.out.2.1; have := hPl.out; show (c.P ++ [(k : Int)]).length <= _; omega
      · have := HM.out.2.2; omega
   ·
    have hpb : (((part : Int)) != 1) = true := by
     rw [bne_iff_ne]; omega
    rw [if_neg hp1] at hG
    replace hp1 := Hd hp1
    go_enter Tryz.func91, Tryz.ntmps91
    go_wp2_with fail
    refine CC.out.mono ?_
    rintro e w1 ⟨rfl, hb1⟩
    go_wp2_with fail
    refine (CN.out w1 hb1).mono ?_
    rintro e w2 ⟨n, b, rfl, hb2, hnk, _⟩
    obtain ⟨rfl, rfl⟩ := hnk k rfl
    have hw2 := bth hb1 hb2
    have hB2 := HB.out.below' hw2
    have z5 := hB2.cell 5
    have hl2 := hB2.lt
    clear hnk CC CN CP hB2
    go_wp2
    go_ret
    exact retFa_bad hG.symm (by decide) (hw2.mono (Nat.le_of_lt hl))
theorem linP_fac {names : List ByteArray} {part : Nat} {c : CrQ} {t r : List UInt8} (hp : part = partQ c) (he : t ≠ wEnd) (hc : cutL 32 t = some (wFactor, r)) : linP names part c t = facLn names part c r := by
 have h0 : part ≠ 0 := by rw [hp]; unfold partQ; split <;> decide
 have h3 : part ≠ 3 := by rw [hp]; unfold partQ; split <;> decide
 have h1 : part = 1 ↔ c.C = [] := by
  rw [hp]; unfold partQ
  by_cases h : c.C = []
  · rw [if_pos h]; exact ⟨fun _ => h, fun _ => rfl⟩
  · rw [if_neg h]; exact ⟨fun e => (by cases e), fun e => absurd e h⟩
 unfold linP facLn lineQ
 rw [if_neg h0, if_neg h3, if_neg he, hc]
 dsimp only
 rw [if_neg (by decide), if_pos rfl]
 cases cutL 32 r with
 | none => rfl
 | some q =>
  obtain ⟨d, x⟩ := q
  dsimp only
  cases numC 0 d with
  | none => rfl
  | some k =>
   dsimp only
   by_cases hC : c.C = []
   ·
    rw [if_pos hC, if_pos (h1.2 hC)]
    rcases polC names x with ⟨_ | p, e⟩
    · rfl
    ·
     dsimp only
     by_cases hpe : p = []
     · rw [if_pos hpe, if_pos hpe]
     ·
      rw [if_neg hpe, if_neg hpe]
      dsimp only
      rw [if_pos hC]
   · rw [if_neg hC, if_neg fun e => hC (h1.1 e)]
theorem linP_cof {names : List ByteArray} {part : Nat} {c : CrQ} {t r : List UInt8} (hp : part = partQ c) (he : t ≠ wEnd) (hc : cutL 32 t = some (wCof, r)) : linP names part c t = match polC names r with
  | (some p, _) => (some (2, { c with C := c.C ++ [p] }), 0)
  | (none, e) => (none, e) := by
 have h0 : part ≠ 0 := by rw [hp]; unfold partQ; split <;> decide
 have h3 : part ≠ 3 := by rw [hp]; unfold partQ; split <;> decide
 unfold linP lineQ
 rw [if_neg h0, if_neg h3, if_neg he, hc]
 dsimp only
 rw [if_pos rfl]
 rcases polC names r with ⟨_ | p, e⟩
 · rfl
 ·
  dsimp only
  rw [if_neg (by simp)]
theorem linP_end {names : List ByteArray} {part : Nat} {c : CrQ} (hp : part = partQ c) : linP names part c wEnd = (some (3, c), 0) := by
 have h0 : part ≠ 0 := by rw [hp]; unfold partQ; split <;> decide
 have h3 : part ≠ 3 := by rw [hp]; unfold partQ; split <;> decide
 unfold linP
 rw [if_neg h0, if_neg h3, if_pos rfl]
theorem linP_bad {names : List ByteArray} {part : Nat} {c : CrQ} {t : List UInt8} (hp : part = partQ c) (he : t ≠ wEnd) (hc : ∀ w r, cutL 32 t = some (w, r) -> w ≠ wCof /\ w ≠ wFactor) : linP names part c t = (none, 9) := by
 have h0 : part ≠ 0 := by rw [hp]; unfold partQ; split <;> decide
 have h3 : part ≠ 3 := by rw [hp]; unfold partQ; split <;> decide
 unfold linP lineQ
 rw [if_neg h0, if_neg h3, if_neg he]
 cases h : cutL 32 t with
 | none => rfl
 | some q =>
  obtain ⟨w, r⟩ := q
  obtain ⟨h1, h2⟩ := hc w r h
  dsimp only
  rw [if_neg h1, if_neg h2]
theorem linP_0 (names : List ByteArray) (t : List UInt8) : linP names 0 noQ t = match cutL 32 t with
  | none => (none, 9)
  | some (w, r) => if w = wPower then match numC 0 r with
    | none => (none, 9)
    | some n => if n = 0 then (none, 9) else (some (1, ⟨[], [], n, []⟩), 0)
   else (none, 9) := by
 unfold linP firstQ
 rw [if_pos rfl]
 cases cutL 32 t with
 | none => rfl
 | some q =>
  obtain ⟨w, r⟩ := q
  dsimp only
  by_cases hw : w = wPower
  ·
   rw [if_pos hw, if_pos hw, numC_one]
   cases numC 0 r with
   | none => rfl
   | some n =>
    by_cases h0 : n = 0
    · subst h0; rfl
    ·
     rw [if_neg (by simpa using h0)]
     dsimp only
     rw [if_neg h0]; rfl
  · rw [if_neg hw, if_neg hw]
def WokL (names : List ByteArray) (t : List UInt8) : Prop := ∀ w r, cutL 32 t = some (w, r) -> (w = wCof -> Wok names r) /\ (w = wFactor -> ∀ d x, cutL 32 r = some (d, x) -> Wok names x)
theorem line3_any (g : Nat) (names : List ByteArray) (na : Option Addr) (nc : Nat) (s : ByteArray) (c : CrQ) (m : Nat) (w : World) (hst : CrSt g (.slice na names.length nc) m w c 3)
  (hE : ∀ W, Below g w W -> EnvC names na nc W) (hs : s.size < 4294967281) :
  Calls Tryz.prog 43 #[.pointer (some ⟨g, 0, none⟩), .string s] w (RetFa g (.slice na names.length nc) (m + 1) (linP names 3 c s.data.toList) w) := by
 obtain ⟨fa, fc, hf, wa, wc, ca, cc, hc, hb, hr, hm1, hm2, hm3⟩ := hst
 have hl := hb.lt
 have CC := cut_any s w (hE w brf).2.1 hs
 obtain ⟨⟨c1, c2, c3⟩, hcc⟩ : ∃ z, cutC s.data.toList = z := ⟨_, rfl⟩
 rw [hcc] at CC
 dsimp only at CC
 replace CC := Hd CC
 have HB := Hd hb
 clear hE hb hr hcc
 go_enter Tryz.func43, Tryz.ntmps43
 go_wp2_with fail
 refine CC.out.mono ?_
 rintro e w1 ⟨rfl, hb1⟩
 have hB1 := HB.out.below' hb1
 have z5 := hB1.cell 5
 have hl1 := hB1.lt
 clear hB1
 go_wp2
 go_ret
 exact retFa_bad (by unfold linP; rw [if_neg (by decide), if_pos rfl]) (by decide) (hb1.mono (Nat.le_of_lt hl))
theorem line0_any (g : Nat) (names : List ByteArray) (na : Option Addr) (nc : Nat) (s : ByteArray) (m : Nat) (w : World) (hst : CrSt g (.slice na names.length nc) m w noQ 0)
  (hE : ∀ W, Below g w W -> EnvC names na nc W) (hs : s.size < 4294967281) :
  Calls Tryz.prog 43 #[.pointer (some ⟨g, 0, none⟩), .string s] w (RetFa g (.slice na names.length nc) (m + 1) (linP names 0 noQ s.data.toList) w) := by
 obtain ⟨fa, fc, hf, wa, wc, ca, cc, hc, hb, hr, hm1, hm2, hm3⟩ := hst
 have hl := hb.lt
 have HE := Hd (fun W (hW : Below w.heap.size w W) => hE W (hW.mono (Nat.le_of_lt hl)))
 have CC := cut_any s w (HE.out w brf).2.1 hs
 have hG0 := linP_0 names s.data.toList
 obtain ⟨G, hG⟩ : ∃ G, linP names 0 noQ s.data.toList = G := ⟨_, rfl⟩
 rw [hG] at hG0 ⊢
 replace hG0 := hG0.symm
 have hlen : s.data.toList.length = s.size := Array.length_toList
 have HB := Hd hb; have HR := Hd hr; have HM := Hd (And.intro hm1 (And.intro hm2 hm3))
 unfold cutC at CC
 have hgw := Hd (Nat.le_of_lt hl)
 clear hE hb hr hm1 hm2 hm3 hG
 cases hcut : cutL 32 s.data.toList with
 | none =>
  rw [hcut] at hG0 CC
  dsimp only at CC hG0
  have CN := fun W (hW : Below w.heap.size w W) => number_any (ofL []) W (by decide) (HE.out W hW).2.2.1 (HE.out W hW).2.2.2.1 (HE.out W hW).2.2.2.2
  obtain ⟨S1, hS1⟩ : ∃ z, ofL s.data.toList = z := ⟨_, rfl⟩
  obtain ⟨S2, hS2⟩ : ∃ z, ofL [] = z := ⟨_, rfl⟩
  rw [hS2] at CN
  rw [hS1, hS2] at CC
  obtain ⟨bw, hbw⟩ : ∃ b, (S1.toList == [112, 111, 119, 101, 114]) = b := ⟨_, rfl⟩
  have hbn : (S1.toList != [112, 111, 119, 101, 114]) = !bw := by rw [bne, hbw]
  replace CN := Hd CN; replace CC := Hd CC
  clear hcut hlen hS1 hS2
  cases bw
  ·
   skip
   go_enter Tryz.func43, Tryz.ntmps43
   go_wp2_with fail
   refine CC.out.mono ?_
   rintro e w1 ⟨rfl, hb1⟩
   have hB1 := HB.out.below' hb1
   have z5 := hB1.cell 5
   have hl1 := hB1.lt
   go_wp2_with fail
   refine (CN.out w1 hb1).mono ?_
   rintro e w2 ⟨n, b, rfl, hb2, _⟩
   clear hB1
   go_wp2
   go_ret
   exact retFa_bad hG0.symm (by decide) ((bth hb1 hb2).mono hgw.out)
  ·
   skip
   go_enter Tryz.func43, Tryz.ntmps43
   go_wp2_with fail
   refine CC.out.mono ?_
   rintro e w1 ⟨rfl, hb1⟩
   have hB1 := HB.out.below' hb1
   have z5 := hB1.cell 5
   have hl1 := hB1.lt
   go_wp2_with fail
   refine (CN.out w1 hb1).mono ?_
   rintro e w2 ⟨n, b, rfl, hb2, _⟩
   clear hB1
   go_wp2
   go_ret
   exact retFa_bad hG0.symm (by decide) ((bth hb1 hb2).mono hgw.out)
 | some dx =>
  obtain ⟨d, x⟩ := dx
  obtain ⟨hcs, _⟩ := cutL_some 32 _ _ _ hcut
  have hll := congrArg List.length hcs
  rw [List.length_append, List.length_cons, hlen] at hll
  rw [hcut] at hG0 CC
  dsimp only at hG0 CC
  have CN := fun W (hW : Below w.heap.size w W) => number_any (ofL x) W (by rw [ofL_size]; omega) (HE.out W hW).2.2.1 (HE.out W hW).2.2.2.1 (HE.out W hW).2.2.2.2
  rw [data_ofL] at CN
  obtain ⟨S1, hS1⟩ : ∃ z, ofL d = z := ⟨_, rfl⟩
  obtain ⟨S2, hS2⟩ : ∃ z, ofL x = z := ⟨_, rfl⟩
  rw [hS2] at CN
  rw [hS1, hS2] at CC
  obtain ⟨bw, hbw⟩ : ∃ b, (S1.toList == [112, 111, 119, 101, 114]) = b := ⟨_, rfl⟩
  have hbn : (S1.toList != [112, 111, 119, 101, 114]) = !bw := by rw [bne, hbw]
  have hdw : d = wPower ↔ bw = true := by
   rw [<- hbw, <- hS1, toList_data, data_ofL, beq_iff_eq]; exact Iff.rfl
  obtain ⟨NG, hNG⟩ : ∃ z, numC 0 x = z := ⟨_, rfl⟩
  rw [hNG] at CN hG0
  replace CN := Hd CN; replace CC := Hd CC
  clear hcut hlen hcs hll hS1 hS2 hNG
  cases bw
  ·
   rw [if_neg fun e => by cases hdw.1 e] at hG0
   clear hdw
   go_enter Tryz.func43, Tryz.ntmps43
   go_wp2_with fail
   refine CC.out.mono ?_
   rintro e w1 ⟨rfl, hb1⟩
   have hB1 := HB.out.below' hb1
   have z5 := hB1.cell 5
   have hl1 := hB1.lt
   go_wp2_with fail
   refine (CN.out w1 hb1).mono ?_
   rintro e w2 ⟨n, b, rfl, hb2, _⟩
   clear hB1
   go_wp2
   go_ret
   exact retFa_bad hG0.symm (by decide) ((bth hb1 hb2).mono hgw.out)
  ·
   rw [if_pos (hdw.2 rfl)] at hG0
   clear hdw
   cases NG with
   | none =>
    dsimp only at hG0
    go_enter Tryz.func43, Tryz.ntmps43
    go_wp2_with fail
    refine CC.out.mono ?_
    rintro e w1 ⟨rfl, hb1⟩
    have hB1 := HB.out.below' hb1
    have z5 := hB1.cell 5
    have hl1 := hB1.lt
    go_wp2_with fail
    refine (CN.out w1 hb1).mono ?_
    rintro e w2 ⟨n, b, rfl, hb2, hnk⟩
    obtain rfl := hnk.2 rfl
    clear hB1 hnk
    go_wp2
    go_ret
    exact retFa_bad hG0.symm (by decide) ((bth hb1 hb2).mono hgw.out)
   | some k =>
    dsimp only at hG0
    by_cases hk0 : k = 0
    ·
     subst hk0
     rw [if_pos rfl] at hG0
     go_enter Tryz.func43, Tryz.ntmps43
     go_wp2_with fail
     refine CC.out.mono ?_
     rintro e w1 ⟨rfl, hb1⟩
     have hB1 := HB.out.below' hb1
     have z5 := hB1.cell 5
     have hl1 := hB1.lt
     go_wp2_with fail
     refine (CN.out w1 hb1).mono ?_
     rintro e w2 ⟨n, b, rfl, hb2, hnk⟩
     obtain ⟨rfl, rfl⟩ := hnk.1 0 rfl
     clear hB1 hnk
     go_wp2
     go_ret
     exact retFa_bad hG0.symm (by decide) ((bth hb1 hb2).mono hgw.out)
    ·
     rw [if_neg hk0] at hG0
     have hkz : ((k : Int) == 0) = false := by rw [beq_eq_false_iff_ne]; omega
     have hkz2 : (k == 0) = false := by rw [beq_eq_false_iff_ne]; exact hk0
     replace hk0 := Hd hk0
     go_enter Tryz.func43, Tryz.ntmps43
     go_wp2_with fail
     refine CC.out.mono ?_
     rintro e w1 ⟨rfl, hb1⟩
     have hB1 := HB.out.below' hb1
     have z5 := hB1.cell 5
     have hl1 := hB1.lt
     go_wp2_with fail
     refine (CN.out w1 hb1).mono ?_
     rintro e w2 ⟨n, b, rfl, hb2, hnk⟩
     obtain ⟨rfl, rfl⟩ := hnk.1 k rfl
     have hw2 := bth hb1 hb2
     have hB2 := HB.out.below' hw2
     have f3 := hB2.frozen 3; have f5 := hB2.frozen 5
     have y3 := hB2.cell 3; have y5 := hB2.cell 5
     have hl2 := hB2.lt
     have hB2' := Hd hB2
     have hr2 := Hd (HR.out.call hw2)
     have hw2' := Hd (hw2.mono hgw.out)
     clear hB1 hnk z5 hl1 hb1 hb2 hw2 hB2
     go_wp2
     go_ret
     refine retFa_ok hG0.symm ((hw2'.out.setCell (nlr _) _).setCell (nlr _) _) ⟨fa, fc, hf, wa, wc, ca, cc, hc, bS (bS hB2'.out rfl) rfl, (hr2.out.fr ((Fr.refl _ _).setc (.inl rfl))).fr ((Fr.refl _ _).setc (.inl rfl)), ?_, ?_, ?_⟩
     · have := HM.out.1; omega
     · have := HM.out.2.1; show _ <= m + 1; simp
     · have := HM.out.2.2; omega
theorem line1_any (g : Nat) (names : List ByteArray) (na : Option Addr) (nc : Nat) (s : ByteArray) (c : CrQ) (part m : Nat) (w : World) (hp : part = partQ c) (hst : CrSt g (.slice na names.length nc) m w c part) (hm : m <= 16000000)
  (hE : ∀ W, Below g w W -> EnvC names na nc W) (hnz : ∀ x ∈ names, x.size <= 1048576) (hnl : names.length <= 1000) (hs : s.size < 4294967281) (hW : WokL names s.data.toList) :
  Calls Tryz.prog 43 #[.pointer (some ⟨g, 0, none⟩), .string s] w (RetFa g (.slice na names.length nc) (m + 1) (linP names part c s.data.toList) w) := by
 have hst0 := Hd hst
 obtain ⟨fa, fc, hf, wa, wc, ca, cc, hc, hb, hr, hm1, hm2, hm3⟩ := hst
 have hl := hb.lt
 have HE0 := Hd hE
 have HE := Hd (fun W (hW : Below w.heap.size w W) => hE W (hW.mono (Nat.le_of_lt hl)))
 have CC := cut_any s w (HE.out w brf).2.1 hs
 have hpz : part ≠ 0 /\ part ≠ 3 := by rw [hp]; unfold partQ; split <;> decide
 have hp0 : ((part : Int) == 0) = false := by rw [beq_eq_false_iff_ne]; omega
 have hp3 : ((part : Int) == 3) = false := by rw [beq_eq_false_iff_ne]; omega
 have hp0' : (part == 0) = false := by rw [beq_eq_false_iff_ne]; exact hpz.1
 have hp3' : (part == 3) = false := by rw [beq_eq_false_iff_ne]; exact hpz.2
 have hlen : s.data.toList.length = s.size := Array.length_toList
 have HB := Hd hb; have HR := Hd hr; have HM := Hd (And.intro hm1 (And.intro hm2 hm3)); have HNZ := Hd hnz
 have hgw := Hd (Nat.le_of_lt hl)
 clear hE hb hr hm1 hm2 hm3 hnz hpz
 by_cases hen : s.data.toList = wEnd
 ·
  have hG := linP_end (names := names) hp
  rw [<- hen] at hG
  have hbe : (s.toList == [101, 110, 100]) = true := by rw [toList_data, beq_iff_eq]; exact hen
  obtain ⟨⟨c1, c2, c3⟩, hcc⟩ : ∃ z, cutC s.data.toList = z := ⟨_, rfl⟩
  rw [hcc] at CC
  dsimp only at CC
  replace CC := Hd CC; replace hG := Hd hG; replace hp := Hd hp
  clear hcc hen hlen hW
  go_enter Tryz.func43, Tryz.ntmps43
  go_wp2_with fail
  refine CC.out.mono ?_
  rintro e w1 ⟨rfl, hb1⟩
  have hB1 := HB.out.below' hb1
  have z5 := hB1.cell 5
  have hl1 := hB1.lt
  have f5 := hB1.frozen 5
  have hB1' := Hd hB1
  clear hB1
  go_wp2
  go_ret
  refine retFa_ok hG.out ((hb1.mono hgw.out).setCell (nlr _) _) ⟨fa, fc, hf, wa, wc, ca, cc, hc, bS hB1'.out rfl, (HR.out.call hb1).fr ((Fr.refl _ _).setc (.inl rfl)), ?_, ?_, ?_⟩
  · have := HM.out.1; omega
  · have := HM.out.2.1; omega
  · have := HM.out.2.2; omega
 have hbe : (s.toList == [101, 110, 100]) = false := by rw [toList_data, beq_eq_false_iff_ne]; exact hen
 unfold cutC at CC
 cases hcut : cutL 32 s.data.toList with
 | none =>
  rw [hcut] at CC
  dsimp only at CC
  have hG := linP_bad (names := names) hp hen fun w r h => by rw [hcut] at h; cases h
  obtain ⟨S1, hS1⟩ : ∃ z, ofL s.data.toList = z := ⟨_, rfl⟩
  obtain ⟨S2, hS2⟩ : ∃ z, ofL [] = z := ⟨_, rfl⟩
  rw [hS1, hS2] at CC
  obtain ⟨bf, hbf⟩ : ∃ b, (S1.toList == [102, 97, 99, 116, 111, 114]) = b := ⟨_, rfl⟩
  obtain ⟨bc, hbc⟩ : ∃ b, (S1.toList == [99, 111, 102, 97, 99, 116, 111, 114]) = b := ⟨_, rfl⟩
  replace CC := Hd CC; replace hp := Hd hp; replace hen := Hd hen
  clear hcut hlen hS1 hS2 hW
  cases bf
  ·
   cases bc
   ·
    skip
    go_enter Tryz.func43, Tryz.ntmps43
    go_wp2_with fail
    refine CC.out.mono ?_
    rintro e w1 ⟨rfl, hb1⟩
    have hB1 := HB.out.below' hb1
    have z5 := hB1.cell 5
    have hl1 := hB1.lt
    clear hB1
    go_wp2
    go_ret
    exact retFa_bad hG (by decide) (hb1.mono hgw.out)
   ·
    skip
    go_enter Tryz.func43, Tryz.ntmps43
    go_wp2_with fail
    refine CC.out.mono ?_
    rintro e w1 ⟨rfl, hb1⟩
    have hB1 := HB.out.below' hb1
    have z5 := hB1.cell 5
    have hl1 := hB1.lt
    clear hB1
    go_wp2
    go_ret
    exact retFa_bad hG (by decide) (hb1.mono hgw.out)
  ·
   cases bc
   ·
    skip
    go_enter Tryz.func43, Tryz.ntmps43
    go_wp2_with fail
    refine CC.out.mono ?_
    rintro e w1 ⟨rfl, hb1⟩
    have hB1 := HB.out.below' hb1
    have z5 := hB1.cell 5
    have hl1 := hB1.lt
    clear hB1
    go_wp2
    go_ret
    exact retFa_bad hG (by decide) (hb1.mono hgw.out)
   ·
    skip
    go_enter Tryz.func43, Tryz.ntmps43
    go_wp2_with fail
    refine CC.out.mono ?_
    rintro e w1 ⟨rfl, hb1⟩
    have hB1 := HB.out.below' hb1
    have z5 := hB1.cell 5
    have hl1 := hB1.lt
    clear hB1
    go_wp2
    go_ret
    exact retFa_bad hG (by decide) (hb1.mono hgw.out)
 | some dx =>
  obtain ⟨d, x⟩ := dx
  have hWk := hW d x hcut
  obtain ⟨hcs, _⟩ := cutL_some 32 _ _ _ hcut
  have hll := congrArg List.length hcs
  rw [List.length_append, List.length_cons, hlen] at hll
  rw [hcut] at CC
  dsimp only at CC
  have hxs : (ofL x).size < 4294967281 := by rw [ofL_size]; omega
  obtain ⟨S1, hS1⟩ : ∃ z, ofL d = z := ⟨_, rfl⟩
  obtain ⟨S2, hS2⟩ : ∃ z, ofL x = z := ⟨_, rfl⟩
  have hx2 : x = S2.data.toList := by rw [<- hS2, data_ofL]
  rw [hS2] at hxs
  rw [hS1, hS2] at CC
  obtain ⟨bf, hbf⟩ : ∃ b, (S1.toList == [102, 97, 99, 116, 111, 114]) = b := ⟨_, rfl⟩
  obtain ⟨bc, hbc⟩ : ∃ b, (S1.toList == [99, 111, 102, 97, 99, 116, 111, 114]) = b := ⟨_, rfl⟩
  have hdf : d = wFactor ↔ bf = true := by rw [<- hbf, <- hS1, toList_data, data_ofL, beq_iff_eq]; exact Iff.rfl
  have hdc : d = wCof ↔ bc = true := by rw [<- hbc, <- hS1, toList_data, data_ofL, beq_iff_eq]; exact Iff.rfl
  replace CC := Hd CC
  cases bf
  ·
   cases bc
   ·
    have hG := linP_bad (names := names) hp hen fun w r h => by
     rw [hcut] at h
     injection h with h
     injection h with h1 h2
     subst h1 h2
     exact ⟨fun e => (by cases hdc.1 e), fun e => (by cases hdf.1 e)⟩
    replace hp := Hd hp; replace hen := Hd hen
    clear hW hcut hWk hcs hll hx2 hS2 hS1 hdf hdc hlen
    go_enter Tryz.func43, Tryz.ntmps43
    go_wp2_with fail
    refine CC.out.mono ?_
    rintro e w1 ⟨rfl, hb1⟩
    have hB1 := HB.out.below' hb1
    have z5 := hB1.cell 5
    have hl1 := hB1.lt
    clear hB1
    go_wp2
    go_ret
    exact retFa_bad hG (by decide) (hb1.mono hgw.out)
   ·
    have hd := hdc.2 rfl
    subst hd
    have hG := linP_cof (names := names) hp hen hcut
    have hWx := hWk.1 rfl
    rw [hx2] at hWx hG
    have CP := fun W (hW : Below w.heap.size w W) => polyC_any (Xc g fa wa ca) g names na nc S2 _ _ _ _ _ W (fun b hb => ltl (HR.out.xlt hl b hb) hW.size) (HB.out.below' hW) (fun V hV => HE.out V (bth hW hV)) HNZ.out hnl (by omega) hWx
    obtain ⟨PG, hPG⟩ : ∃ z, polC names S2.data.toList = z := ⟨_, rfl⟩
    rw [hPG] at CP hG
    have hG1 := Hd hG
    replace CP := Hd CP; replace hp := Hd hp; replace hen := Hd hen
    clear hW hcut hWk hcs hll hx2 hS2 hS1 hdf hdc hlen hWx hPG hG
    go_enter Tryz.func43, Tryz.ntmps43
    go_wp2_with fail
    refine CC.out.mono ?_
    rintro e w1 ⟨rfl, hb1⟩
    have hB1 := HB.out.below' hb1
    have z5 := hB1.cell 5
    have hl1 := hB1.lt
    clear hB1
    go_wp2_with fail
    refine (CP.out w1 hb1).mono ?_
    rintro e w3 ⟨a, n, cp, er, rfl, hb3, hok, hbad⟩
    have hw3 := bth hb1 hb3
    clear CP z5 hl1
    have hG := hG1.out
    clear hG1
    obtain ⟨o, er'⟩ := PG
    cases o with
    | none =>
     obtain ⟨rfl, h0⟩ := hbad er' rfl
     dsimp only at hG
     have hne : (er != 0) = true := by simpa using h0
     have h0' := Hd h0
     clear h0 hok hbad
     go_wp2
     go_ret
     exact retFa_bad hG h0'.out (hw3.mono hgw.out)
    | some p =>
     obtain ⟨rfl, hP, rfl⟩ := hok p er' rfl
     dsimp only at hG
     obtain ⟨n, hn⟩ : ∃ n, p.length = n := ⟨_, rfl⟩
     rw [hn]
     have hr3 := HR.out.call hw3
     have hB3 := HB.out.below' hw3
     have z4 := hB3.cell 4
     have hl3 := hB3.lt
     have hB4 := Hd (bA (o := .cells #[.slice a n cp] 23) hB3)
     have hr4 := Hd (hr3.call (brf.alloc (nlr _) (.cells #[.slice a n cp] 23)))
     have hP4 := Hd (show PolX (Xc g fa wa ca) (w3.alloc (.cells #[.slice a n cp] 23)) a cp p from hP.step ((Agr.refl _ _).alloc _))
     have hw4 := Hd (show Below g w (w3.alloc (.cells #[.slice a n cp] 23)) from (hw3.mono hgw.out).alloc (Nat.le_of_lt hl3) _)
     have hcl : Hid (∀ j v, (PQ.cs ⟨n, a, cp⟩)[j]? = some v -> (w3.alloc (.cells #[.slice a n cp] 23)).cell? ⟨w3.heap.size, j, none⟩ = some v) := Hd fun j v hj => by
      cases j with
      | zero => simp [PQ.cs] at hj; subst hj; exact (Blk.new w3 23 #[.slice a n cp]).cell 0
      | succ j => simp [PQ.cs] at hj
     have hl4 := Hd (show g < w3.heap.size from hl3)
     have hn' := Hd hn
     have hG' := Hd hG
     clear hP hr3 hB3 hw3 hn hG hb1 hb3 hok hbad
     go_wp2_with (at_builtin; go_must (refine wpList_append_1 (B := g + 1) rfl (.tmp 92) (.tmp 94) 37 rfl Tryz.underlying37 infoPq rfl (by omega) (by omega) PQ.cs_len ca cc (l := hc) rfl hr4.out.oC ⟨n, a, cp⟩ (PQ.cs_one _) w3.heap.size 1 rfl hcl.out (hc ++ [⟨n, a, cp⟩]) rfl (by have := HM.out.2.2; rw [List.length_append]; simp; omega) (by have := hl4.out; simp; omega) ?_); intro ca2 cc2 w5 ho5 hg5 ha5; refine park ?_)
     refine Hd ?_
     have hB5 := hB4.out.under hr4.out.oC (Nat.lt_succ_self _) hg5
     have hr5 := Hd (hr4.out.pushC hg5 ho5 ha5 hP4.out hn'.out.symm)
     have hw5 := Hd (below_own hw4.out hr4.out.oC (by have := hl4.out; simp; omega) hg5)
     have hll : (hc ++ [(⟨n, a, cp⟩ : PQ)]).length = hc.length + 1 := by simp
     have y4 := hB5.cell 4; have y5 := hB5.cell 5
     have f4 := hB5.frozen 4; have f5 := hB5.frozen 5
     have hl5 := hB5.lt
     have hB5' := Hd hB5
     clear z4 hl3 hB4 hr4 hP4 hw4 hcl hl4 ho5 hg5 ha5 hB5
     obtain ⟨hc2, hhc2⟩ : ∃ z, hc ++ [(⟨n, a, cp⟩ : PQ)] = z := ⟨_, rfl⟩
     rw [hhc2] at hr5 hll
     rw [<- hll]
     have hll' := Hd hll
     clear hhc2 hll
     go_wp2
     go_ret
     refine retFa_ok hG'.out ((hw5.out.setCell (nlr _) _).setCell (nlr _) _) ⟨fa, fc, hf, wa, wc, ca2, cc2, hc2, bS (bS hB5'.out rfl) rfl, (hr5.out.fr ((Fr.refl _ _).setc (.inl rfl))).fr ((Fr.refl _ _).setc (.inl rfl)), ?_, ?_, ?_⟩
     · have := HM.out.1; omega
     · have := HM.out.2.1; show c.P.length <= _; omega
     · have := HM.out.2.2; have := hll'.out; omega
  ·
   have hd := hdf.2 rfl
   subst hd
   have hG := linP_fac (names := names) hp hen hcut
   have hWx := hWk.2 rfl
   rw [hx2] at hWx hG
   have CF := fun W (hW : Below w.heap.size w W) => factor_any g names na nc S2 c part m W (hst0.out.call hW) hm (fun V hV => HE0.out V ((hW.mono hgw.out).trans hV)) HNZ.out hnl hxs hWx
   rw [<- hG] at CF
   obtain ⟨G, hGG⟩ : ∃ G, linP names part c s.data.toList = G := ⟨_, rfl⟩
   rw [hGG] at CF ⊢
   replace CF := Hd CF; replace hp := Hd hp; replace hen := Hd hen
   clear hW hcut hWk hcs hll hx2 hS2 hS1 hdf hdc hlen hWx hG hGG
   go_enter Tryz.func43, Tryz.ntmps43
   go_wp2_with fail
   refine CC.out.mono ?_
   rintro e w1 ⟨rfl, hb1⟩
   have hB1 := HB.out.below' hb1
   have z5 := hB1.cell 5
   have hl1 := hB1.lt
   clear hB1
   go_wp2_with fail
   refine (CF.out w1 hb1).mono ?_
   rintro e w3 ⟨er, rfl, hb3, h1, h2⟩
   replace h1 := Hd h1; replace h2 := Hd h2
   clear CF z5 hl1
   go_wp2
   go_ret
   exact ⟨er, rfl, (hb1.mono hgw.out).trans hb3, h1.out, h2.out⟩
theorem next_any (q rb n k : Nat) (x : ByteArray) (w : World) (hq : Blk w q 83 #[.slice (some ⟨rb, 0, none⟩) n n, .int .i64 (k : Int)]) (hx : w.cell? ⟨rb, k, none⟩ = some (.string x)) (hk : k < n) (hn : n <= 4611686018427387904) (hne : rb ≠ q) :
  Calls Tryz.prog 42 #[.pointer (some ⟨q, 0, none⟩)] w fun e w' => e = .returned (.tuple #[.string x, .bool true]) /\ Blk w' q 83 #[.slice (some ⟨rb, 0, none⟩) n n, .int .i64 ((k + 1 : Nat) : Int)] /\ Fg q w w' := by
 have z0 := hq.cell 0; have z1 := hq.cell 1
 have f1 := hq.frozen 1
 have hl := hq.lt
 have hlr := World.block_lt_of_cell? w _ hx
 have d1 : decide ((n : Int) <= (k : Int)) = false := by rw [decide_eq_false_iff_not]; omega
 have d2 : decide (n <= k) = false := by rw [decide_eq_false_iff_not]; omega
 have hW := Hd (show Blk ((w.setCell ⟨q, 1, none⟩ (.int .i64 ((k : Int) + 1))).drew) q 83 #[.slice (some ⟨rb, 0, none⟩) n n, .int .i64 ((k : Int) + 1)] /\ ((w.setCell ⟨q, 1, none⟩ (.int .i64 ((k : Int) + 1))).drew).cell? ⟨rb, k, none⟩ = some (.string x) /\ Fg q w ((w.setCell ⟨q, 1, none⟩ (.int .i64 ((k : Int) + 1))).drew) from
  ⟨bS hq rfl, (World.cell?_setCell_other w ⟨q, 1, none⟩ ⟨rb, k, none⟩ _ (fun e => by injection e with e _; exact hne e.symm)).trans hx, ((Fr.refl (fun b => b = q) w).setc (.inl rfl)).call (brf.drew)⟩)
 clear hq hx
 go_enter Tryz.func42, Tryz.ntmps42
 go_wp2
 refine wp_region_mix (S := (fun x => x = w.drew)) [(0, .q), (1, .q), (2, .q), (3, .q), (4, .q), (5, .q), (6, .q), (7, .q), (8, .q), (9, .p)] (by kernel_rfl) (by kernel_rfl) (by kernel_rfl) (fun d _ _ _ _ h => by cases d <;> exact h) (rfl) ?_
 iterate 9 (refine wpMix_q rfl rfl (fun K hK => ?_); apply Exists.intro; refine ⟨fun w' hw' => ?_, ?_⟩; (focus (go_simp; try rfl)); go_simp; refine hK _ _ ?_; clear hK K)
 iterate 1 (refine wpMix_p rfl rfl (fun K hK => ?_); apply Exists.intro; refine ⟨fun w' => ?_, ?_⟩; (focus (go_simp; try rfl)); go_simp; refine hK _ _ ?_; clear hK K)
 refine wpMix_nil ?_
 go_wp2
 obtain ⟨W, hWe⟩ : ∃ W, (w.setCell ⟨q, 1, none⟩ (.int .i64 ((k : Int) + 1))).drew = W := ⟨_, rfl⟩
 rw [hWe] at hW ⊢
 have hW2 := Hd (hW.out.1.drew)
 have y0 := hW.out.1.cell 0; have y1 := hW.out.1.cell 1; have y2 := hW.out.2.1
 have hl2 := hW.out.1.lt
 have hF := Hd (hW.out.2.2.call (brf.drew))
 have e1 : (k : Int) + 1 - 1 = (k : Int) := by omega
 have e2 : IntKind.i64.wrap (k : Int) = (k : Int) := by rw [IntKind.wrap_i64]; omega
 have e3 : (0 : Int) <= (k : Int) /\ (k : Int) < (n : Int) := ⟨by omega, by omega⟩
 clear z0 z1 f1 hl hlr hWe hW d1 d2
 refine wp_region_mix (S := (fun x => x = W.drew)) [(0, .q), (1, .q), (2, .q), (3, .q), (4, .q), (5, .q), (6, .q), (7, .q), (8, .q), (9, .q), (10, .q), (11, .p), (12, .p)] (by kernel_rfl) (by kernel_rfl) (by kernel_rfl) (fun d _ _ _ _ h => by cases d <;> exact h) (rfl) ?_
 iterate 11 (refine wpMix_q rfl rfl (fun K hK => ?_); apply Exists.intro; refine ⟨fun w' hw' => ?_, ?_⟩; (focus (go_simp; try rfl)); go_simp; refine hK _ _ ?_; clear hK K)
 iterate 2 (refine wpMix_p rfl rfl (fun K hK => ?_); apply Exists.intro; refine ⟨fun w' => ?_, ?_⟩; (focus (go_simp; try rfl)); go_simp; refine hK _ _ ?_; clear hK K)
 refine wpMix_nil ?_
 go_wp2
 go_ret2
 exact ⟨rfl, hW2.out, hF.out⟩
end Go.Proofs.YtkjnkpkagcboeaaGreatDoor
