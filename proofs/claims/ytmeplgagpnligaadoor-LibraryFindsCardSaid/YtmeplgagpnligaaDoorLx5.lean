/- A statement whose order is open, where two operations that are no reads may come up in either order. No function of the program in sight. -/
import Derived.Test.YtmeplgagpnligaaDoorLx4
import Derived.Deep.LoopGhost
import Derived.Test.YtmeplgagpnligaaDoorLx2
import Derived.Test.YtmeplgagpnligaaDoorLx3
import Derived.Test.YtmeplgagpnligaaDoorRows

/- Walk: the program's replacement of names in a text. -/
namespace Go.Proofs.YtmeplgagpnligaaDoor
open Go.RowKit

theorem flushP_len (pm word : List UInt8) : (flushP pm word).length = word.length := by
  unfold flushP
  split
  · split <;> rfl
  · rfl
theorem replTo_len (pm : List UInt8) : ∀ (s out word : List UInt8), (replTo pm out word s).length = out.length + word.length + s.length
  | [], out, word => by simp [replTo, flushP_len]
  | c :: r, out, word => by
    unfold replTo
    split
    · rw [replTo_len pm r]; simp; omega
    · rw [replTo_len pm r]; simp [flushP_len]; omega
def Asc (l : List UInt8) : Prop := ∀ x ∈ l, x.toNat < 128
theorem Asc.app {l m : List UInt8} (h : Asc l) (k : Asc m) : Asc (l ++ m) := fun x hx => by
  rcases List.mem_append.1 hx with h1 | h1
  · exact h x h1
  · exact k x h1
theorem flushP_asc {pm word : List UInt8} (hp : Asc pm) (hw : Asc word) : Asc (flushP pm word) := by
  unfold flushP
  split
  · next c =>
    split
    · intro x hx
      simp only [List.mem_singleton] at hx
      subst hx
      unfold toAt
      cases h : pm[c.toNat - 65]? with
      | none => simp
      | some y => simp; exact hp y (List.mem_of_getElem? h)
    · exact hw
  · exact hw
theorem replTo_asc {pm : List UInt8} (hp : Asc pm) : ∀ (s out word : List UInt8), Asc s → Asc out → Asc word → Asc (replTo pm out word s)
  | [], out, word, _, ho, hw => by unfold replTo; exact ho.app (flushP_asc hp hw)
  | c :: r, out, word, hs, ho, hw => by
    have hc : Asc [c] := fun x hx => by simp only [List.mem_singleton] at hx; subst hx; exact hs x (by simp)
    have hr : Asc r := fun x hx => hs x (by simp [hx])
    unfold replTo
    split
    · exact replTo_asc hp r _ _ hr ho (hw.app hc)
    · exact replTo_asc hp r _ _ hr ((ho.app (flushP_asc hp hw)).app hc) (fun x hx => by cases hx)
theorem conv_runes {B : Nat} {w : World} {a : Option Addr} {c : Nat} {l : List UInt8} (h : OwnR B w a c l) (ha : Asc l) : (convert 78 9 (.slice a l.length c)).run Tryd.prog w = .ok (.string (ofL l)) w := by
  cases a with
  | none =>
    have : l = [] := by
      rcases h.2 with ⟨_, hn⟩ | ⟨g, cap, cur, hv, _⟩
      · exact List.length_eq_zero_iff.1 hn
      · cases hv
    subst this
    exact run_convert_runes_nil w 78 9 21 _ _ Tryd.underlying78 Tryd.underlying21 Tryd.underlying9
  | some g =>
    have := run_convert_runes (P := Tryd.prog) w 78 9 21 g l.length c (l.map fun x => (x.toNat : Int)) (by simp) Tryd.underlying78 Tryd.underlying21 Tryd.underlying9 (by
      intro j hj
      have hj2 : j < l.length := by simpa using hj
      obtain ⟨g2, e, _, _, hc⟩ := h.at1 (List.getElem?_eq_getElem hj2)
      injection e with e
      subst e
      rw [Addr.add_lit]
      simpa [hj2] using hc)
    rw [this, List.take_of_length_le (by simp), runes_ascii l ha]
theorem row_case {a a' : Option Addr} {n : Nat} (h : ∃ g, a' = some ⟨g, 0, none⟩ ∧ (a = some ⟨g, 0, none⟩ ∨ g = n)) : ∀ g, a' = some g → a = some g ∨ g.block = n := by
  obtain ⟨g, rfl, h⟩ := h
  intro g' e
  injection e with e
  subst e
  exact h
theorem replTo_yes {pm out word : List UInt8} {x : UInt8} {r R : List UInt8} (h : replTo pm out word (x :: r) = R) (hx : letB x = true) : replTo pm out (word ++ [x]) r = R := by
  unfold replTo at h; rwa [if_pos hx] at h
theorem replTo_no {pm out word : List UInt8} {x : UInt8} {r R : List UInt8} (h : replTo pm out word (x :: r) = R) (hx : letB x = false) : replTo pm (out ++ flushP pm word ++ [x]) [] r = R := by
  unfold replTo at h; rwa [if_neg (by simp [hx])] at h
theorem drop_get {α : Type} {l : List α} {k : Nat} {x : α} (h : l[k]? = some x) : l.drop k = x :: l.drop (k + 1) := by
  have h2 := lt_of_get h
  rw [List.drop_eq_getElem_cons h2]
  rw [List.getElem?_eq_getElem h2] at h
  rw [Option.some.inj h]
set_option maxHeartbeats 2000000 in
theorem replaced_any (pm l : List UInt8) (hto : pm.length = 3) (hpa : Asc pm) (hla : Asc l) (hl : l.length ≤ 10000) (w : World) :
    Calls Tryd.prog 26 #[.string (ofL l), .string (ofL pm)] w fun e w' => e = .returned (.string (ofL (replP pm l))) ∧ Below w.heap.size w w' := by
  have hsl : (ofL l).size = l.length := ofL_size l
  obtain ⟨R, hR⟩ : ∃ R, replP pm l = R := ⟨_, rfl⟩
  have hRa : Asc R := by rw [← hR]; exact replTo_asc hpa l _ _ hla (fun x hx => by cases hx) (fun x hx => by cases hx)
  have hRl : R.length = l.length := by rw [← hR]; unfold replP; rw [replTo_len]; simp
  have HR := Lib.hid hR
  have HRA := Lib.hid hRa
  have HRL := Lib.hid hRl
  have HTO := Lib.hid hto
  have HSL := Lib.hid hsl
  have HLA := Lib.hid hla
  rw [hR]
  have hb1 : (ofL l).size ≤ 10000 := by omega
  clear hR hRa hRl hto hsl hpa hla
  have L0 : RLs w (w.heap.size + 1 + 1) w.heap.size (w.heap.size + 1) (w.heap.size + 1 + 1 + 1) (w.heap.size + 1 + 1 + 1 + 1) := by constructor <;> omega
  have H0 : RSt w (w.heap.size + 1 + 1) w.heap.size (w.heap.size + 1) (w.heap.size + 1 + 1 + 1) (w.heap.size + 1 + 1 + 1 + 1) pm (ofL l) 0 [] [] none 0 none 0
      ((((w.alloc (.cells #[.string (ofL pm)] 9)).alloc (.cells #[.slice none 0 0] 78)).alloc (.cells #[.slice none 0 0] 78)).iter (ofL l) 0) := by
    refine ⟨?_, ?_, ?_, Own.nil, Own.nil, (fun g g2 e => by cases e), ?_, ?_, ?_⟩
    · exact (blk_at2 w _ _ _ _).alloc _
    · exact (((Blk.new w _ _).alloc _).alloc _).alloc _
    · exact ((blk_at1 w _ _ _).alloc _).alloc _
    · have := World.iter_heap (((w.alloc (.cells #[.string (ofL pm)] 9)).alloc (.cells #[.slice none 0 0] 78)).alloc (.cells #[.slice none 0 0] 78)) (ofL l) 0
      simpa [Itr] using this
    · exact ((((Below.refl _ w).alloc (Nat.le_refl _) _).alloc (by simp) _).alloc (by simp; omega) _).alloc (by simp; omega) _
    · simp [World.iter]
  go_enter Tryd.func26, Tryd.ntmps26
  go_wp2
  have hgi : w.heap.size ≤ w.heap.size + 1 + 1 + 1 := by omega
  have hgn : w.heap.size + 1 + 1 + 1 ≠ w.heap.size := by omega
  revert H0 L0 hgi hgn
  generalize ((((w.alloc (.cells #[.string (ofL pm)] 9)).alloc (.cells #[.slice none 0 0] 78)).alloc (.cells #[.slice none 0 0] 78)).iter (ofL l) 0) = w0
  generalize w.heap.size + 1 + 1 + 1 + 1 = B
  generalize w.heap.size + 1 + 1 + 1 = gi
  generalize w.heap.size + 1 + 1 = gw
  generalize w.heap.size + 1 = go
  intro L H0 hgi hgn
  have HL := Lib.hid L
  have HRE := Lib.hid (show replTo pm [] [] (l.drop 0) = R from HR.out)
  clear L
  go_loopg [9, 13, 14] (ofL l).size (fun g _ _ _ wr => ∃ (pos : Nat) (word out : List UInt8) (a : Option Addr) (c : Nat) (a2 : Option Addr) (c2 : Nat), pos + g = (ofL l).size ∧ RSt w gw w.heap.size go gi B pm (ofL l) pos word out a c a2 c2 wr ∧ replTo pm out word (l.drop pos) = R)
  case atStart => exact ⟨0, [], [], none, 0, none, 0, by omega, H0, HRE.out⟩
  case round =>
    obtain ⟨pos, word, out, a, c, a2, c2, hpg, h, hre⟩ := hrel
    have H := Lib.hid h
    have HPG := Lib.hid hpg
    have hi := h.it
    have hol : out.length + word.length ≤ 10000 := by
      have := congrArg List.length hre
      rw [replTo_len] at this
      have := HRL.out
      omega
    have HRE := Lib.hid hre
    clear h hpg hre H0 HR
    by_cases hlt : pos < (ofL l).size
    · have hg := get_ofL hlt
      obtain ⟨x, hx⟩ : ∃ x, (ofL l)[pos]'hlt = x := ⟨_, rfl⟩
      rw [hx] at hg
      have hxa : x.toNat < 128 := HLA.out x (List.mem_of_getElem? hg)
      have hnx := run_next_at (P := Tryd.prog) wr gi (ofL l) pos 0 hi hlt (by rw [hx]; exact hxa)
      rw [hx] at hnx
      have H1 := Lib.hid (RSt.step HL.out hgi hgn H.out (pos + 1))
      have hre := HRE.out
      rw [drop_get hg] at hre
      have hlen : out.length + word.length + 1 ≤ 10000 := by
        have h5 := congrArg List.length hre
        rw [replTo_len, List.length_cons] at h5
        have := HRL.out
        omega
      obtain ⟨b, hb⟩ : ∃ b, letB x = b := ⟨_, rfl⟩
      clear hg hx HRE hi
      go_wp2_with fail
      refine (within_any x _).mono ?_
      rintro e w1 ⟨rfl, rfl⟩
      rw [hb]
      have x0 := H1.out.bw.cell 0; have x2 := H1.out.bo.cell 0
      cases b
      · have HRE := Lib.hid (replTo_no hre hb)
        clear hre hb hnx
        go_wp2_with fail
        refine (flush_any HL.out H1.out HTO.out hol).mono ?_
        rintro e w2 ⟨rfl, a', c', a2', c2', h2⟩
        have hFl : (out ++ flushP pm word).length ≤ 10000 := by rw [List.length_append, flushP_len]; exact hol
        obtain ⟨F, hF⟩ : ∃ F, out ++ flushP pm word = F := ⟨_, rfl⟩
        rw [hF] at h2 HRE hFl
        clear hF
        have H2 := Lib.hid h2
        have x0 := h2.bw.cell 0; have x2 := h2.bo.cell 0
        obtain ⟨O, hO⟩ : ∃ O, O = F ++ [x] := ⟨_, rfl⟩
        have hOl : O.length ≤ 16777216 := by rw [hO]; simp; omega
        have HO := Lib.hid hO
        replace H2 := Lib.hid (h2.alloc (.cells #[.int .i32 (x.toNat : Int)] 21))
        clear hO h2 H1
        go_wp2_with (at_builtin; go_must (refine append_rune rfl (.tmp 24) (.tmp 26) rfl a2' c2' rfl H2.out.oo x w2.heap.size 1 rfl (by simp) O HO.out hOl H2.out.hB ?_); intro a3 c3 w3 ho3 hg3 hx3; have f3 := (H2.out.bo.grown hg3 (row_ne H2.out.oo HL.out.h4 _)).frozen 0; have f4 := (H2.out.bo.grown hg3 (row_ne H2.out.oo HL.out.h4 _)).cell 0)
        go_roundg (gk - 1)
        case rel => exact ⟨pos + 1, [], O, a', c', a3, c3, by have := HPG.out; omega, RSt.appo HL.out H2.out ho3 hg3 (row_case hx3), by rw [HO.out]; exact HRE.out⟩
        case measure => have := HPG.out; omega
      · have HRE := Lib.hid (replTo_yes hre hb)
        obtain ⟨O, hO⟩ : ∃ O, O = word ++ [x] := ⟨_, rfl⟩
        have hOl : O.length ≤ 16777216 := by rw [hO]; simp; omega
        have HO := Lib.hid hO
        replace H1 := Lib.hid (H1.out.alloc (.cells #[.int .i32 (x.toNat : Int)] 21))
        clear hre hb hnx hO
        go_wp2_with (at_builtin; go_must (refine append_rune rfl (.tmp 18) (.tmp 20) rfl a c rfl H1.out.ow x (setItr wr gi (ofL l) (pos + 1)).heap.size 1 rfl (by simp) O HO.out hOl H1.out.hB ?_); intro a3 c3 w3 ho3 hg3 hx3; have f3 := (H1.out.bw.grown hg3 (row_ne H1.out.ow HL.out.h3 _)).frozen 0; have f4 := (H1.out.bw.grown hg3 (row_ne H1.out.ow HL.out.h3 _)).cell 0)
        go_roundg (gk - 1)
        case rel => exact ⟨pos + 1, O, out, a3, c3, a2, c2, by have := HPG.out; omega, RSt.appw HL.out H1.out ho3 hg3 (row_case hx3), by rw [HO.out]; exact HRE.out⟩
        case measure => have := HPG.out; omega
    · have hpe : pos = (ofL l).size := by have := HPG.out; omega
      have hnx := run_next_stop (P := Tryd.prog) wr gi (ofL l) pos 0 hi hlt
      have hre := HRE.out
      rw [hpe, HSL.out, List.drop_length] at hre
      unfold replTo at hre
      have HRE2 := Lib.hid hre
      clear hre hpe hi
      have x0 := H.out.bw.cell 0; have x2 := H.out.bo.cell 0
      go_wp2_with fail
      refine (flush_any HL.out H.out HTO.out hol).mono ?_
      rintro e w2 ⟨rfl, a', c', a2', c2', h2⟩
      rw [HRE2.out] at h2
      have hconv := conv_runes h2.oo HRA.out
      have x2 := h2.bo.cell 0
      have hbl := h2.bl
      clear h2
      go_wp2
      go_ret
      exact ⟨rfl, hbl⟩
end Go.Proofs.YtmeplgagpnligaaDoor

/- Walk: the reference's families. -/
namespace Go.Proofs.YtmeplgagpnligaaDoor
open Go.RowKit

def famC (x : Rf) : List Value := [.string (ofL x.name), .string (ofL x.steps), .string (ofL x.thm), .string (ofL x.wrong)]
theorem famC_len (x : Rf) : (famC x).length = 4 := rfl
noncomputable def refCells : Array Value := (refs.flatMap famC).toArray
theorem fam_world {w : World} {cs : Array Value} (h : cs = refCells) : w.alloc (.cells cs 45) = w.alloc (.cells refCells 45) := by rw [h]
set_option maxRecDepth 100000 in
set_option maxHeartbeats 8000000 in
theorem families_any (w : World) : Calls Tryd.prog 18 #[] w fun e w' => e = .returned (.slice (some ⟨w.heap.size, 0, none⟩) 24 24) ∧ w.alloc (.cells refCells 45) = w' := by
  go_enter Tryd.func18, Tryd.ntmps18
  go_wp2
  go_ret
  exact ⟨rfl, (fam_world (by kernel_rfl)).symm⟩
theorem refs_len : refs.length = 24 := by decide +kernel
end Go.Proofs.YtmeplgagpnligaaDoor

/- What the walks of an entry of the library share: rows of integers, the builder beside other blocks, the plain entry. -/
namespace Go.Proofs.YtmeplgagpnligaaDoor
open Go.RowKit

/-- block g is a row of integers that begins with os -/
def RowI (w : World) (g cap : Nat) (os : List Int) : Prop := ∃ cur, Blk w g 3 cur ∧ cur.toList.take os.length = os.map (Value.int .i64) ∧ os.length ≤ cap ∧ cap ≤ maxLen ∧ cur.size = cap
theorem RowI.new (w : World) (x : Int) : RowI (w.alloc (.cells #[.int .i64 x] 3)) w.heap.size 1 [x] := ⟨_, Blk.new w _ _, rfl, Nat.le_refl _, by simp [maxLen], rfl⟩
theorem RowI.own {w : World} {g cap : Nat} {os : List Int} (h : RowI w g cap os) {B : Nat} (hB : B ≤ g) : OwnI B w (some ⟨g, 0, none⟩) cap os := by
  obtain ⟨cur, h1, h2, h3, h4, h5⟩ := h
  have e : os.flatMap intC = os.map (Value.int .i64) := by
    clear h2 h3
    induction os with
    | nil => rfl
    | cons x l ih => rw [List.flatMap_cons, ih]; rfl
  refine ⟨by rw [e]; simp, .inr ⟨g, cap, cur, rfl, hB, h1, h3, h4, by simpa using h5, ?_⟩⟩
  rw [e, Nat.mul_one]; exact h2
theorem RowI.of {w : World} {g cap B : Nat} {os : List Int} (h : OwnI B w (some ⟨g, 0, none⟩) cap os) : RowI w g cap os := by
  have e : os.flatMap intC = os.map (Value.int .i64) := by
    clear h
    induction os with
    | nil => rfl
    | cons x l ih => rw [List.flatMap_cons, ih]; rfl
  rcases h.2 with ⟨hv, _⟩ | ⟨g', cap', cur, hv, _, hh, hn, hm, hc, ht⟩
  · cases hv
  · injection hv with e1 e2 e3
    injection e1 with e1
    injection e1 with e1
    subst e1
    subst e3
    exact ⟨cur, hh, by rw [e, Nat.mul_one] at ht; exact ht, hn, hm, by simpa using hc⟩
theorem RowI.blk {w w' : World} {g cap : Nat} {os : List Int} (h : RowI w g cap os) (hk : ∀ cs, Blk w g 3 cs → Blk w' g 3 cs) : RowI w' g cap os := by
  obtain ⟨cur, h1, h2⟩ := h
  exact ⟨cur, hk _ h1, h2⟩
theorem RowI.lt {w : World} {g cap : Nat} {os : List Int} (h : RowI w g cap os) : g < w.heap.size := by
  obtain ⟨cur, h1, _⟩ := h
  exact h1.lt
theorem RowI.ne {w : World} {g g' cap : Nat} {os : List Int} {t : TypeId} {cs : Array Value} (h : RowI w g cap os) (hb : Blk w g' t cs) (ht : t ≠ 3) : g ≠ g' := by
  obtain ⟨cur, h1, _⟩ := h
  rintro rfl
  unfold Blk at h1 hb
  rw [h1] at hb
  injection hb with hb
  injection hb with _ e
  exact ht e.symm
/-- it reads in whatever world holds its block's cells -/
theorem RowI.reads {w V : World} {g cap : Nat} {os : List Int} (h : RowI w g cap os) {B : Nat} (hB : B ≤ g) (hV : New B w V) (hi : ∀ x ∈ os, InInt x) : IntsR V (some ⟨g, 0, none⟩) cap os := by
  obtain ⟨cur, h1, h2, h3, h4, h5⟩ := h
  refine ⟨h3, h4, fun k x hx => ⟨g, 0, rfl, ?_, wf_of (hi x (List.mem_of_getElem? hx))⟩⟩
  have hk := lt_of_get hx
  refine hV _ _ hB ?_
  rw [h1.cell]
  have h6 : (cur.toList.take os.length)[k]? = (os.map (Value.int .i64))[k]? := by rw [h2]
  rw [List.getElem?_take_of_lt hk, List.getElem?_map, hx] at h6
  simpa using h6
theorem Bld.kept {b : Nat} {l : List UInt8} {w w' : World} (h : Bld b l w) (hk : ∀ (k : Nat) (c : Array Value) (t : TypeId) (fz : Nat × Nat), w.heap[k]? = some (Obj.cells c t fz) → (t = 5 ∨ t = 62) → w'.heap[k]? = w.heap[k]?) : Bld b l w' := by
  have key : ∀ p, Lib.BuilderAtF 62 5 b b p (Lib.byteCells l) w → Lib.BuilderAtF 62 5 b b p (Lib.byteCells l) w' := by
    rintro p ⟨h1, v, h2, h3, h4⟩
    refine ⟨h1, v, (hk _ _ _ _ h2 (.inr rfl)).trans h2, ⟨h3.1, ?_⟩, h4⟩
    rcases h3.2 with hn | ⟨g, cap, cur, fz, e, hg, hh, rest⟩
    · exact .inl hn
    · exact .inr ⟨g, cap, cur, fz, e, hg, (hk _ _ _ _ hh (.inl rfl)).trans hh, rest⟩
  rcases h with h | h
  · exact .inl (key _ h)
  · exact .inr (key _ h)
/-- a block of another type turns -/
theorem Bld.grown {b : Nat} {l : List UInt8} {w w' : World} {q : Nat} {t : TypeId} {cs : Array Value} (h : Bld b l w) (hq : Blk w q t cs) (h1 : t ≠ 5) (h2 : t ≠ 62) (hg : w.grownBy w' (some q)) : Bld b l w' := by
  refine Bld.kept h fun k c t' fz hh ht => hg.block k (Array.getElem?_eq_some_iff.1 hh).1 fun e => ?_
  injection e with e
  subst e
  unfold Blk at hq
  rw [hq] at hh
  injection hh with hh
  injection hh with _ e2
  rcases ht with e3 | e3
  · exact h1 (e2.trans e3)
  · exact h2 (e2.trans e3)
theorem grown_set (w : World) (q i : Nat) (u : Value) : w.grownBy (w.setCell ⟨q, i, none⟩ u) (some q) := ⟨rfl, rfl, rfl, by simp [World.setCell], fun k _ hk => Below.heap_setCell _ _ _ _ (fun e => hk (by simp at e; rw [e]))⟩
theorem Bld.alloc {b : Nat} {l : List UInt8} {w : World} (h : Bld b l w) (o : Obj) : Bld b l (w.alloc o) := h.below ((Below.refl _ _).alloc (Nat.le_refl _) _)
theorem Bld.drew {b : Nat} {l : List UInt8} {w : World} (h : Bld b l w) : Bld b l w.drew := h.below (Below.refl _ _).drew
/-- what a call gives that makes an entry, and an error -/
def RetEnt (nm src : List UInt8) (os : List Int) (x : Int) (w : World) (e : Ending) (w' : World) : Prop := ∃ a c, e = .returned (.tuple #[.agg #[.string (ofL nm), .string (ofL src), .slice a os.length c], .int .i64 x]) ∧ (∀ V, New w.heap.size w' V → IntsR V a c os) ∧ Below w.heap.size w w'
/-- .. without an error -/
def RetEn1 (nm src : List UInt8) (os : List Int) (w : World) (e : Ending) (w' : World) : Prop := ∃ a c, e = .returned (.agg #[.string (ofL nm), .string (ofL src), .slice a os.length c]) ∧ (∀ V, New w.heap.size w' V → IntsR V a c os) ∧ Below w.heap.size w w'

/-! ### The plain entry -/
def srcP (f : Fm) (v : Nat) : List UInt8 := headL ++ stepLines (perm (v % 6)) f.steps ++ (proveL ++ replP (perm (v % 6)) f.thm ++ [59, 10]) ++ (if 6 ≤ v then proveL ++ replP (perm (v % 6)) f.wrong ++ [59, 10] else [])
def nmP (f : Fm) (v : Nat) : List UInt8 := f.name ++ [45] ++ textN v
def osP (f : Fm) (v : Nat) : List Int := if 6 ≤ v then [1, if f.name = unkL then 0 else 2] else [1]
def srcR (r : Rf) (v : Nat) : List UInt8 := headL ++ linTo false (renTo (perm (v % 6)) false r.steps) ++ proveL ++ renTo (perm (v % 6)) false r.thm ++ [59, 10] ++ (if 6 ≤ v then proveL ++ renTo (perm (v % 6)) false r.wrong ++ [59, 10] else [])
def nmR (r : Rf) (v : Nat) : List UInt8 := r.name ++ [45] ++ textN v
def osR (r : Rf) (v : Nat) : List Int := if 6 ≤ v then [1, if r.name = unkL then 0 else 2] else [1]
theorem sameF_eq {f : Fm} {r : Rf} (h : sameF f r = true) (v : Nat) : srcP f v = srcR r v ∧ nmP f v = nmR r v ∧ osP f v = osR r v := by
  simp only [sameF, Bool.and_eq_true, beq_iff_eq, List.all_eq_true, List.mem_range, sameAt] at h
  obtain ⟨h1, h2⟩ := h
  obtain ⟨h3, h4, h5⟩ := h2 (v % 6) (Nat.mod_lt _ (by omega))
  refine ⟨?_, by unfold nmP nmR; rw [h1], by unfold osP osR; rw [h1]⟩
  unfold srcP srcR
  rw [h3, h4, h5]
  simp only [List.append_assoc]
theorem sameAll_at : ∀ (fs : List Fm) (rs : List Rf) (k : Nat) (f : Fm), sameAll fs rs = true → fs[k]? = some f → ∃ r, rs[k]? = some r ∧ sameF f r = true
  | [], _, k, f, _, h => by simp at h
  | f0 :: fs, [], k, f, hs, h => by simp [sameAll] at hs
  | f0 :: fs, r :: rs, 0, f, hs, h => by
    simp only [sameAll, Bool.and_eq_true] at hs
    simp at h; subst h
    exact ⟨r, rfl, hs.1⟩
  | f0 :: fs, r :: rs, k + 1, f, hs, h => by
    simp only [sameAll, Bool.and_eq_true] at hs
    exact sameAll_at fs rs k f hs.2 (by simpa using h)
/-- what is known of each family -/
def okF (f : Fm) : Bool := (asciiL f.thm && asciiL f.wrong) && ((f.steps.all fun s => asciiL s && decide (s.length ≤ 1000)) && (decide (f.thm.length ≤ 1000) && (decide (f.wrong.length ≤ 1000) && (decide (f.name.length ≤ 100) && decide (f.steps.length ≤ 99)))))
theorem fams_ok : fams.all okF = true := by decide +kernel
def okR (r : Rf) : Bool := decide (r.steps.length ≤ 5000) && (decide (r.thm.length ≤ 1000) && (decide (r.wrong.length ≤ 1000) && decide (r.name.length ≤ 100)))
theorem refs_ok : refs.all okR = true := by decide +kernel
theorem asc_of {l : List UInt8} (h : asciiL l = true) : Asc l := fun x hx => by
  have := List.all_eq_true.1 h x hx
  simpa using this
theorem perm_asc (v : Nat) : Asc (perm v) := by
  unfold perm Asc
  split <;> decide
theorem perm_len (v : Nat) : (perm v).length = 3 := by unfold perm; split <;> rfl
theorem stepLines_app (pm : List UInt8) : ∀ (l m : List (List UInt8)), stepLines pm (l ++ m) = stepLines pm l ++ stepLines pm m
  | [], m => rfl
  | s :: r, m => by simp [stepLines, stepLines_app pm r m]
theorem stepLines_len (pm : List UInt8) : ∀ (l : List (List UInt8)), (∀ s ∈ l, s.length ≤ 1000) → (stepLines pm l).length ≤ 1002 * l.length
  | [], _ => by simp [stepLines]
  | s :: r, h => by
    have h1 := stepLines_len pm r (fun x hx => h x (by simp [hx]))
    have h2 := h s (by simp)
    have h3 : (replP pm s).length = s.length := by unfold replP; rw [replTo_len]; simp
    simp only [stepLines, List.length_append, List.length_cons, List.length_nil, h3]
    omega
end Go.Proofs.YtmeplgagpnligaaDoor

/- Walks: decimal digits of small numbers, by the library and by the reference. -/
namespace Go.Proofs.YtmeplgagpnligaaDoor
open Go.RowKit

/-- the decimal digits of a number below 100 -/
def decS (i : Nat) : ByteArray := if i < 10 then ⟨#[(48 + i).toUInt8]⟩ else ⟨#[(48 + i / 10).toUInt8, (48 + i % 10).toUInt8]⟩
theorem below60 {i : Nat} (h : i < 60) : i = 0 ∨ i = 1 ∨ i = 2 ∨ i = 3 ∨ i = 4 ∨ i = 5 ∨ i = 6 ∨ i = 7 ∨ i = 8 ∨ i = 9 ∨ i = 10 ∨ i = 11 ∨ i = 12 ∨ i = 13 ∨ i = 14 ∨ i = 15 ∨ i = 16 ∨ i = 17 ∨ i = 18 ∨ i = 19 ∨ i = 20 ∨ i = 21 ∨ i = 22 ∨ i = 23 ∨ i = 24 ∨ i = 25 ∨ i = 26 ∨ i = 27 ∨ i = 28 ∨ i = 29 ∨
    i = 30 ∨ i = 31 ∨ i = 32 ∨ i = 33 ∨ i = 34 ∨ i = 35 ∨ i = 36 ∨ i = 37 ∨ i = 38 ∨ i = 39 ∨ i = 40 ∨ i = 41 ∨ i = 42 ∨ i = 43 ∨ i = 44 ∨ i = 45 ∨ i = 46 ∨ i = 47 ∨ i = 48 ∨ i = 49 ∨ i = 50 ∨ i = 51 ∨ i = 52 ∨ i = 53 ∨ i = 54 ∨ i = 55 ∨ i = 56 ∨ i = 57 ∨ i = 58 ∨ i = 59 := by omega
set_option maxRecDepth 100000 in
set_option maxHeartbeats 8000000 in
theorem small_any (i : Nat) (w : World) (h : i < 60) : Calls Tryd.prog 61 #[.int .i64 i] w fun e w' => e = .returned (.string (decS i)) ∧ w = w' := by
  rcases below60 h with rfl | rfl | rfl | rfl | rfl | rfl | rfl | rfl | rfl | rfl | rfl | rfl | rfl | rfl | rfl | rfl | rfl | rfl | rfl | rfl | rfl | rfl | rfl | rfl | rfl | rfl | rfl | rfl | rfl | rfl | rfl | rfl | rfl | rfl | rfl | rfl | rfl | rfl | rfl | rfl | rfl | rfl | rfl | rfl | rfl | rfl | rfl | rfl | rfl | rfl | rfl | rfl | rfl | rfl | rfl | rfl | rfl | rfl | rfl | rfl
  all_goals
    clear h
    go_enter Tryd.func61, Tryd.ntmps61
    go_wp2
    go_ret
    exact ⟨ret_str (by decide), rfl⟩
set_option maxHeartbeats 400000 in
theorem itoa_any (i : Nat) (w : World) (h : i < 60) : Calls Tryd.prog 23 #[.int .i64 i] w fun e w' => e = .returned (.string (decS i)) ∧ w = w' := by
  have CS := fun W => small_any i W h
  replace CS := Lib.hid CS
  have C1 : ∀ w, Calls Tryd.prog 51 #[.int .i64 i, .int .i64 10] w fun e w' => e = .returned (.string (decS i)) ∧ w = w' := by
    intro w
    go_enter Tryd.func51, Tryd.ntmps51
    go_wp2_with fail
    refine (CS.out _).mono ?_
    rintro e w' ⟨rfl, rfl⟩
    go_wp2
    go_ret
    exact ⟨rfl, rfl⟩
  replace C1 := Lib.hid C1
  have C2 : ∀ w, Calls Tryd.prog 38 #[.int .i64 i] w fun e w' => e = .returned (.string (decS i)) ∧ w = w' := by
    intro w
    go_enter Tryd.func38, Tryd.ntmps38
    go_wp2_with fail
    refine (C1.out _).mono ?_
    rintro e w' ⟨rfl, rfl⟩
    go_wp2
    go_ret
    exact ⟨rfl, rfl⟩
  replace C2 := Lib.hid C2
  go_enter Tryd.func23, Tryd.ntmps23
  go_wp2_with fail
  refine (C2.out _).mono ?_
  rintro e w' ⟨rfl, rfl⟩
  go_wp2
  go_ret
  exact ⟨rfl, rfl⟩
end Go.Proofs.YtmeplgagpnligaaDoor

/- A statement whose order is open, where two operations that are no reads may come up in either order. No function of the program in sight. -/
namespace Go.Proofs.YtmeplgagpnligaaDoor
open Go.RowKit

/-- the orders, as a tree: what reads (q), any other (l), of the tail (p, t), and two of which either comes first -/
inductive MT where
  | nil
  | q (i : Nat) (r : MT)
  | p (i : Nat) (r : MT)
  | l (i : Nat) (r : MT)
  | t (i : Nat) (r : MT)
  | two (i : Nat) (r : MT) (j : Nat) (r' : MT)
  | three (i : Nat) (r : MT) (j : Nat) (r' : MT) (k : Nat) (r'' : MT)
def MT.size : MT → Nat
  | .nil => 0
  | .q _ r => r.size + 1
  | .p _ r => r.size + 1
  | .l _ r => r.size + 1
  | .t _ r => r.size + 1
  | .two _ r _ _ => r.size + 1
  | .three _ r _ _ _ _ => r.size + 1
section
variable {P : Program} {ops : Array Oper} {Q : Exit → Act → World → Prop} {md : Region.Mode} {S : World → Prop}
def okMT (md : Region.Mode) (ops : Array Oper) (T : List Nat) : MT → Array Bool → Bool → Bool
  | .nil, listed, _ => (Region.ready md ops listed).isEmpty
  | .q i r, listed, late => !late && (!T.contains i && (T.all (fun j => dep md ops ops.size j i) && (Region.free md ops listed i && ((Region.ready md ops listed).contains i && okMT md ops T r (listed.setIfInBounds i true) late))))
  | .p i r, listed, _ => T.contains i && (Region.free md ops listed i && ((Region.ready md ops listed).contains i && okMT md ops T r (listed.setIfInBounds i true) true))
  | .l i r, listed, late => !late && (!T.contains i && ((Region.ready md ops listed == [i]) && okMT md ops T r (listed.setIfInBounds i true) late))
  | .t i r, listed, _ => T.contains i && ((Region.ready md ops listed == [i]) && okMT md ops T r (listed.setIfInBounds i true) true)
  | .two i r j r', listed, late => !late && (!T.contains i && (!T.contains j && ((Region.ready md ops listed == [i, j]) && ((r.size == r'.size) && (okMT md ops T r (listed.setIfInBounds i true) late && okMT md ops T r' (listed.setIfInBounds j true) late)))))
  | .three i r j r' k r'', listed, late => !late && (!T.contains i && (!T.contains j && (!T.contains k && ((Region.ready md ops listed == [i, j, k]) && ((r.size == r'.size) && ((r.size == r''.size) && (okMT md ops T r (listed.setIfInBounds i true) late && (okMT md ops T r' (listed.setIfInBounds j true) late && okMT md ops T r'' (listed.setIfInBounds k true) late))))))))
/-- one operation walked -/
def loudly (P : Program) (ops : Array Oper) (Q : Exit → Act → World → Prop) (i : Nat) (K : Act → World → Prop) (a : Act) (w : World) : Prop := match opAt ops i with
  | none => False
  | some o => if Region.wanted o (yielded ops a.tmps) = true then o.wp P a w K Q else K (a.put o.dst undef) w
def wpMT (P : Program) (ops : Array Oper) (Q : Exit → Act → World → Prop) (S : World → Prop) : MT → Act → World → Prop
  | .nil, a, w => Q .normal a w
  | .q i r, a, w => match opAt ops i with
    | none => False
    | some o => if Region.wanted o (yielded ops a.tmps) = true then ∃ v, (∀ w', S w' → (execOp a.eval o).run P w' = .ok (.value v) w') ∧ wpMT P ops Q S r (a.put o.dst v) w
      else wpMT P ops Q S r (a.put o.dst undef) w
  | .p i r, a, w => match opAt ops i with
    | none => False
    | some o => if Region.wanted o (yielded ops a.tmps) = true then ∃ v, (∀ w', (execOp a.eval o).run P w' = .ok (.value v) w') ∧ wpMT P ops Q S r (a.put o.dst v) w
      else wpMT P ops Q S r (a.put o.dst undef) w
  | .l i r, a, w => loudly P ops Q i (fun a' w' => S w' ∧ wpMT P ops Q S r a' w') a w
  | .t i r, a, w => loudly P ops Q i (fun a' w' => wpMT P ops Q S r a' w') a w
  | .two i r j r', a, w => loudly P ops Q i (fun a' w' => S w' ∧ wpMT P ops Q S r a' w') a w ∧ loudly P ops Q j (fun a' w' => S w' ∧ wpMT P ops Q S r' a' w') a w
  | .three i r j r' k r'', a, w => loudly P ops Q i (fun a' w' => S w' ∧ wpMT P ops Q S r a' w') a w ∧ loudly P ops Q j (fun a' w' => S w' ∧ wpMT P ops Q S r' a' w') a w ∧ loudly P ops Q k (fun a' w' => S w' ∧ wpMT P ops Q S r'' a' w') a w
/-- does a number stand in the tail's list? -/
def inT (T : List Nat) (i : Nat) : Bool := T.contains i

theorem loudly_op {i : Nat} {K K' : Act → World → Prop} {a : Act} {w : World} (h : loudly P ops Q i K a w) (hK : ∀ a' w', K a' w' → K' a' w') : wpOp P ops Q i K' a w := by
  unfold loudly at h
  rw [opAt_eq] at h
  unfold wpOp
  cases ho : ops[i]? with
  | none => rw [ho] at h; exact h.elim
  | some o =>
    rw [ho] at h
    simp only at h ⊢
    by_cases hw : Region.wanted o (yielded ops a.tmps) = true
    · rw [if_pos hw] at h ⊢
      exact .inl (Oper.wp_mono hK h)
    · rw [if_neg hw] at h ⊢
      exact hK _ _ h

theorem wpMT_any (hs : Region.noSelect ops = true) (hQ : ∀ d v c a w, Q (.panic c) (a.put d v) w → Q (.panic c) a w) (T : List Nat) :
    ∀ (l : MT) (listed : Array Bool) (a : Act) (w : World) (late : Bool), okMT md ops T l listed late = true → Closed md ops listed → (late = false → S w) → wpMT P ops Q S l a w →
      wpAnyX P md ops Q S (inT T) l.size listed a w
  | .nil, listed, a, w, _, hB, _, _, h => by
    unfold MT.size wpAnyX
    exact ⟨by simpa [okMT] using hB, h⟩
  | .q i r, listed, a, w, late, hB, hcl, hS, h => by
    simp only [okMT, Bool.and_eq_true, Bool.not_eq_true', List.all_eq_true] at hB
    obtain ⟨hl, hti, htl, h1, h2, h3⟩ := hB
    have h2' : i ∈ Region.ready md ops listed := by simpa using h2
    unfold wpMT at h
    rw [opAt_eq] at h
    cases ho : ops[i]? with
    | none => rw [ho] at h; exact h.elim
    | some o =>
      rw [ho] at h
      simp only at h
      have htl' : ∀ j, inT T j = true → dep md ops ops.size j i = true := fun j hj => htl j (by simpa [inT] using hj)
      by_cases hw : Region.wanted o (yielded ops a.tmps) = true
      · rw [if_pos hw] at h
        obtain ⟨v, hv, hn⟩ := h
        exact wpAnyX_first ho hti (Region.noSelect_spec hs) (fun c a w => hQ _ _ c a w) _ _ _ _ (Region.free_spec ho h1) htl' hcl h2' (.inl ⟨hw, hv⟩) (hS hl) (wpMT_any hs hQ T r _ _ _ late h3 (hcl.set_ h2') hS hn)
      · rw [if_neg hw] at h
        exact wpAnyX_first ho hti (Region.noSelect_spec hs) (fun c a w => hQ _ _ c a w) _ _ _ _ (Region.free_spec ho h1) htl' hcl h2' (.inr ⟨by simpa using hw, rfl⟩) (hS hl) (wpMT_any hs hQ T r _ _ _ late h3 (hcl.set_ h2') hS h)
  | .p i r, listed, a, w, late, hB, hcl, hS, h => by
    simp only [okMT, Bool.and_eq_true] at hB
    obtain ⟨hti, h1, h2, h3⟩ := hB
    have h2' : i ∈ Region.ready md ops listed := by simpa using h2
    unfold wpMT at h
    rw [opAt_eq] at h
    cases ho : ops[i]? with
    | none => rw [ho] at h; exact h.elim
    | some o =>
      rw [ho] at h
      simp only at h
      by_cases hw : Region.wanted o (yielded ops a.tmps) = true
      · rw [if_pos hw] at h
        obtain ⟨v, hv, hn⟩ := h
        exact wpAnyX_pure ho hti (Region.noSelect_spec hs) (fun c a w => hQ _ _ c a w) _ _ _ _ (Region.free_spec ho h1) h2' (.inl ⟨hw, hv⟩) (wpMT_any hs hQ T r _ _ _ true h3 (hcl.set_ h2') (fun h => by cases h) hn)
      · rw [if_neg hw] at h
        exact wpAnyX_pure ho hti (Region.noSelect_spec hs) (fun c a w => hQ _ _ c a w) _ _ _ _ (Region.free_spec ho h1) h2' (.inr ⟨by simpa using hw, rfl⟩) (wpMT_any hs hQ T r _ _ _ true h3 (hcl.set_ h2') (fun h => by cases h) h)
  | .l i r, listed, a, w, late, hB, hcl, hS, h => by
    simp only [okMT, Bool.and_eq_true, Bool.not_eq_true', beq_iff_eq] at hB
    obtain ⟨hl, hti, h1, h3⟩ := hB
    have h2' : i ∈ Region.ready md ops listed := by rw [h1]; simp
    unfold wpMT at h
    unfold MT.size wpAnyX
    refine ⟨(fun h0 => by rw [h1] at h0; cases h0), fun j hj => ?_⟩
    obtain rfl : j = i := by rw [h1] at hj; simpa using hj
    exact loudly_op h fun a' w' hh => ⟨fun _ => hh.1, wpMT_any hs hQ T r _ a' w' late h3 (hcl.set_ h2') (fun _ => hh.1) hh.2⟩
  | .t i r, listed, a, w, late, hB, hcl, hS, h => by
    simp only [okMT, Bool.and_eq_true, beq_iff_eq] at hB
    obtain ⟨hti, h1, h3⟩ := hB
    have h2' : i ∈ Region.ready md ops listed := by rw [h1]; simp
    unfold wpMT at h
    unfold MT.size wpAnyX
    refine ⟨(fun h0 => by rw [h1] at h0; cases h0), fun j hj => ?_⟩
    obtain rfl : j = i := by rw [h1] at hj; simpa using hj
    have hno : inT T j = false → False := fun h => by rw [inT, hti] at h; cases h
    exact loudly_op h fun a' w' hh => ⟨fun h => (hno h).elim, wpMT_any hs hQ T r _ a' w' true h3 (hcl.set_ h2') (fun h => by cases h) hh⟩
  | .two i r j r', listed, a, w, late, hB, hcl, hS, h => by
    simp only [okMT, Bool.and_eq_true, Bool.not_eq_true', beq_iff_eq] at hB
    obtain ⟨hl, hti, htj, h1, hsz, h3, h4⟩ := hB
    have hi' : i ∈ Region.ready md ops listed := by rw [h1]; simp
    have hj' : j ∈ Region.ready md ops listed := by rw [h1]; simp
    unfold wpMT at h
    unfold MT.size wpAnyX
    refine ⟨(fun h0 => by rw [h1] at h0; cases h0), fun k hk => ?_⟩
    rw [h1] at hk
    rcases List.mem_cons.1 hk with rfl | hk
    · exact loudly_op h.1 fun a' w' hh => ⟨fun _ => hh.1, wpMT_any hs hQ T r _ a' w' late h3 (hcl.set_ hi') (fun _ => hh.1) hh.2⟩
    · obtain rfl : k = j := by simpa using hk
      refine loudly_op h.2 fun a' w' hh => ⟨fun _ => hh.1, ?_⟩
      rw [hsz]
      exact wpMT_any hs hQ T r' _ a' w' late h4 (hcl.set_ hj') (fun _ => hh.1) hh.2
  | .three i r j r' k r'', listed, a, w, late, hB, hcl, hS, h => by
    simp only [okMT, Bool.and_eq_true, Bool.not_eq_true', beq_iff_eq] at hB
    obtain ⟨hl, hti, htj, htk, h1, hsz, hsz2, h3, h4, h5⟩ := hB
    have hi' : i ∈ Region.ready md ops listed := by rw [h1]; simp
    have hj' : j ∈ Region.ready md ops listed := by rw [h1]; simp
    have hk' : k ∈ Region.ready md ops listed := by rw [h1]; simp
    unfold wpMT at h
    unfold MT.size wpAnyX
    refine ⟨(fun h0 => by rw [h1] at h0; cases h0), fun m hm => ?_⟩
    rw [h1] at hm
    rcases List.mem_cons.1 hm with rfl | hm
    · exact loudly_op h.1 fun a' w' hh => ⟨fun _ => hh.1, wpMT_any hs hQ T r _ a' w' late h3 (hcl.set_ hi') (fun _ => hh.1) hh.2⟩
    · rcases List.mem_cons.1 hm with rfl | hm
      · refine loudly_op h.2.1 fun a' w' hh => ⟨fun _ => hh.1, ?_⟩
        rw [hsz]
        exact wpMT_any hs hQ T r' _ a' w' late h4 (hcl.set_ hj') (fun _ => hh.1) hh.2
      · obtain rfl : m = k := by simpa using hm
        refine loudly_op h.2.2 fun a' w' hh => ⟨fun _ => hh.1, ?_⟩
        rw [hsz2]
        exact wpMT_any hs hQ T r'' _ a' w' late h5 (hcl.set_ hk') (fun _ => hh.1) hh.2
attribute [irreducible] wpMT
/-- THE REGION: 'l' is the tree of orders, 'T' the tail; S is what every operation ahead of the tail leaves as it is. -/
theorem wp_region_tree {id : Nat} {a : Act} {w : World} (l : MT) (T : List Nat) (hm : P.follows .mixedOrders = true) (hs : Region.noSelect ops = true)
    (hB : (l.size == ops.size && okMT .any ops T l (Array.replicate ops.size false) false) = true)
    (hQ : ∀ d v c a w, Q (.panic c) (a.put d v) w → Q (.panic c) a w) (hS : S w.drew) (h : wpMT P ops Q S l a w.drew) : (Code.region id ops true).wp P Q a w := by
  simp only [Bool.and_eq_true, beq_iff_eq] at hB
  refine wp_region_any hm (wpAny_of_X (S := S) (tl := inT T) _ _ _ _ ?_)
  have hc : Closed .any ops (Array.replicate ops.size false) := fun k o _ hk => by
    exfalso
    rcases Nat.lt_or_ge k ops.size with h' | h'
    · simp [h'] at hk
    · simp [Nat.not_lt.2 h'] at hk
  have := wpMT_any (md := .any) hs hQ T l _ a w.drew false hB.2 hc (fun _ => hS) h
  rwa [hB.1] at this
theorem wpMT_nil {a : Act} {w : World} (h : Q .normal a w) : wpMT P ops Q S .nil a w := by unfold wpMT; exact h
theorem wpMT_q {i : Nat} {r : MT} {o : Oper} {a : Act} {w : World} (ho : opAt ops i = some o) (hw : Region.wanted o (yielded ops a.tmps) = true)
    (h : ∀ K : Act → World → Prop, (∀ a' w', wpMT P ops Q S r a' w' → K a' w') → ∃ v, (∀ w', S w' → (execOp a.eval o).run P w' = .ok (.value v) w') ∧ K (a.put o.dst v) w) :
    wpMT P ops Q S (.q i r) a w := by
  unfold wpMT
  rw [ho]
  simp only
  rw [if_pos hw]
  exact h _ (fun _ _ h => h)
theorem wpMT_p {i : Nat} {r : MT} {o : Oper} {a : Act} {w : World} (ho : opAt ops i = some o) (hw : Region.wanted o (yielded ops a.tmps) = true)
    (h : ∀ K : Act → World → Prop, (∀ a' w', wpMT P ops Q S r a' w' → K a' w') → ∃ v, (∀ w', (execOp a.eval o).run P w' = .ok (.value v) w') ∧ K (a.put o.dst v) w) :
    wpMT P ops Q S (.p i r) a w := by
  unfold wpMT
  rw [ho]
  simp only
  rw [if_pos hw]
  exact h _ (fun _ _ h => h)
theorem wpMT_l {i : Nat} {r : MT} {o : Oper} {a : Act} {w : World} (ho : opAt ops i = some o) (hw : Region.wanted o (yielded ops a.tmps) = true)
    (h : ∀ K : Act → World → Prop, Hid (∀ a' w', S w' → (S w' → wpMT P ops Q S r a' w') → K a' w') → o.wp P a w K Q) :
    wpMT P ops Q S (.l i r) a w := by
  unfold wpMT loudly
  rw [ho]
  simp only
  rw [if_pos hw]
  exact h _ (fun _ _ h k => ⟨h, k h⟩)
theorem wpMT_t {i : Nat} {r : MT} {o : Oper} {a : Act} {w : World} (ho : opAt ops i = some o) (hw : Region.wanted o (yielded ops a.tmps) = true)
    (h : ∀ K : Act → World → Prop, Hid (∀ a' w', wpMT P ops Q S r a' w' → K a' w') → o.wp P a w K Q) :
    wpMT P ops Q S (.t i r) a w := by
  unfold wpMT loudly
  rw [ho]
  simp only
  rw [if_pos hw]
  exact h _ (fun _ _ h => h)
/-- either may come first -/
theorem wpMT_two {i j : Nat} {r r' : MT} {a : Act} {w : World} (h : wpMT P ops Q S (.l i r) a w) (h' : wpMT P ops Q S (.l j r') a w) : wpMT P ops Q S (.two i r j r') a w := by
  unfold wpMT at h h' ⊢
  exact ⟨h, h'⟩
theorem wpMT_three {i j k : Nat} {r r' r'' : MT} {a : Act} {w : World} (h : wpMT P ops Q S (.l i r) a w) (h' : wpMT P ops Q S (.l j r') a w) (h'' : wpMT P ops Q S (.l k r'') a w) : wpMT P ops Q S (.three i r j r' k r'') a w := by
  unfold wpMT at h h' h'' ⊢
  exact ⟨h, h', h''⟩
end
end Go.Proofs.YtmeplgagpnligaaDoor
