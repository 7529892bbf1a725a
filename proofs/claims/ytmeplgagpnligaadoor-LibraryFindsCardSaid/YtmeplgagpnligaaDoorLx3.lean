/- A range over a string beside other blocks. No function of the program in sight. -/
import Derived.Test.YtmeplgagpnligaaDoorLx1
import Derived.Test.YtmeplgagpnligaaDoorLx2
import Derived.Deep.LoopGhost
import Derived.Test.YtmeplgagpnligaaDoorRows
import Derived.Deep.QuietTactic
import Derived.BigQuiet
import Derived.Deep.Upon
import Derived.Laws.RangeString

/- Walk: the program's families. -/
namespace Go.Proofs.YtmeplgagpnligaaDoor
open Go.RowKit

/-- a family, and the block where its statements lie -/
structure FmV where
  fm : Fm
  g : Nat
def FmV.cs (x : FmV) : List Value := [.string (ofL x.fm.name), .slice (some ⟨x.g, 0, none⟩) x.fm.steps.length x.fm.steps.length, .string (ofL x.fm.thm), .string (ofL x.fm.wrong)]
theorem FmV.cs_len (x : FmV) : x.cs.length = 4 := rfl
theorem FmV.cs_one (x : FmV) : ∀ u ∈ x.cs, u.oneCell' = true := by simp [FmV.cs, Value.oneCell']
theorem infoF : (Tryd.prog.info? 41).map (fun i => (i.zero, i.size, i.bytes)) = some (some (.agg #[.string ⟨#[]⟩, .slice none 0 0, .string ⟨#[]⟩, .string ⟨#[]⟩]), 4, 72) := by kernel_rfl
abbrev OwnF (B : Nat) (w : World) (a : Option Addr) (c : Nat) (l : List FmV) : Prop := Own FmV.cs 4 41 B w a c l
def strsOf (l : List (List UInt8)) : Array Value := (l.map fun s => Value.string (ofL s)).toArray
/-- the statements of a family where they lie -/
def StB (B : Nat) (w : World) (x : FmV) : Prop := B ≤ x.g ∧ Blk w x.g 9 (strsOf x.fm.steps)
theorem split_strs (s sep : List UInt8) (l : List (List UInt8)) (k : Nat) (hsep : sep ≠ []) (hp : pieces sep k s = l) (hk : l.length ≤ k) (w : World) (hm : MaxL w) (hs : s.length < 4294967281) :
    Calls Tryd.prog 28 #[.string (ofL s), .string (ofL sep)] w fun e w' => e = .returned (.slice (some ⟨w.heap.size, 0, none⟩) l.length l.length) ∧ w.alloc (.cells (strsOf l) 9) = w' := by
  obtain ⟨h1, h2⟩ := split_pieces hsep k hp hk
  have h3 : 1 ≤ (ofL sep).size := by rw [ofL_size]; exact List.length_pos_iff.2 hsep
  refine (split_any (ofL s) (ofL sep) w hm (by rw [ofL_size]; exact hs) h3).mono ?_
  rintro e w' ⟨rfl, rfl⟩
  refine ⟨by rw [h2], ?_⟩
  rw [h1, List.map_map]
  rfl
theorem trim_strs (s : List UInt8) (w : World) (hs : s.length ≤ 10000) : Calls Tryd.prog 29 #[.string (ofL s), .string (ofL [59])] w fun e w' => e = .returned (.string (ofL (trimSemi s))) ∧ w = w' := by
  refine (trimSuffix_any (ofL s) (ofL [59]) w (by rw [ofL_size]; omega)).mono ?_
  rintro e w' ⟨rfl, rfl⟩
  exact ⟨rfl, rfl⟩
theorem lines_short : (linesP.all fun l => decide (l.length ≤ 1000)) = true := by decide +kernel
theorem parts_short : (linesP.all fun l => (partsP l).all fun p => decide (p.length ≤ 1000)) = true := by decide +kernel
theorem trimSemi_len (l : List UInt8) : (trimSemi l).length ≤ l.length := by
  unfold trimSemi Lib.trimSuffix
  split
  · rw [List.length_take]; omega
  · omega
theorem fam_short : famT.data.toList.length ≤ 10000 := by decide +kernel
/-- what is known of a line -/
theorem line_at {k : Nat} {l : List UInt8} (h : linesP[k]? = some l) : l.length ≤ 1000 ∧ ∃ p0 p1 p2 p3, partsP l = [p0, p1, p2, p3] ∧ fmOf l = ⟨p0, stepsP p1, p2, p3⟩ ∧ (stepsP p1).length ≤ 99 ∧ p1.length ≤ 1000 := by
  have hm := List.mem_of_getElem? h
  have h1 := List.all_eq_true.1 lines_short l hm
  have h2 := List.all_eq_true.1 parts_len l hm
  simp only [decide_eq_true_eq, Bool.and_eq_true, beq_iff_eq] at h1 h2
  obtain ⟨h2, h3⟩ := h2
  have h4 := List.all_eq_true.1 parts_short l hm
  match hp : partsP l, h2 with
  | [p0, p1, p2, p3], _ =>
    refine ⟨h1, p0, p1, p2, p3, rfl, ?_, ?_, ?_⟩
    · unfold fmOf; rw [hp]; rfl
    · rw [hp] at h3; exact h3
    · rw [hp] at h4
      simp only [List.all_cons, Bool.and_eq_true, decide_eq_true_eq] at h4
      exact h4.2.1
/-- what a call gives that makes the families -/
def RetAll (w : World) (e : Ending) (w' : World) : Prop := ∃ a c vs, e = .returned (.slice a 24 c) ∧ vs.map FmV.fm = fams ∧ OwnF w.heap.size w' a c vs ∧ (∀ v ∈ vs, StB w.heap.size w' v) ∧ Below w.heap.size w w'
theorem StB.below {B : Nat} {w w' : World} {x : FmV} (h : StB B w x) (hb : Below w.heap.size w w') : StB B w' x := ⟨h.1, h.2.below' hb⟩
theorem fams_len : fams.length = 24 := by unfold fams; rw [List.length_map, lines_len]
theorem fam_ne_str : 41 ≠ 9 := by decide
set_option maxRecDepth 100000 in
set_option maxHeartbeats 4000000 in
theorem all_any (w : World) (hM : MaxL w) : Calls Tryd.prog 16 #[] w (RetAll w) := by
  have CL : ∀ s, s = famT → ∀ W, MaxL W → Calls Tryd.prog 28 #[.string s, .string (ofL [10])] W fun e w' => e = .returned (.slice (some ⟨W.heap.size, 0, none⟩) 24 24) ∧ W.alloc (.cells (strsOf linesP) 9) = w' := by
    rintro s rfl W hW
    have h := split_strs famT.data.toList [10] linesP 100 (by simp) rfl (by rw [lines_len]; omega) W hW (Nat.lt_of_le_of_lt fam_short (by omega))
    rw [ofL_data, lines_len] at h
    exact h
  replace CL := Lib.hid CL
  have HM := Lib.hid hM
  have h0 : Blk (w.alloc (.cells (strsOf linesP) 9)) w.heap.size 9 (strsOf linesP) := Blk.new w _ _
  have hb0 : Below w.heap.size w (w.alloc (.cells (strsOf linesP) 9)) := (Below.refl _ _).alloc (Nat.le_refl _) _
  clear hM
  go_enter Tryd.func16, Tryd.ntmps16
  go_wp2_with fail
  refine (CL.out _ (by kernel_rfl) _ HM.out).mono ?_
  rintro e w1 ⟨rfl, hw1⟩
  subst hw1
  revert h0 hb0
  generalize w.alloc (.cells (strsOf linesP) 9) = w0
  intro h0 hb0
  clear CL
  go_wp2
  have H0 := Lib.hid h0
  go_loopg [1, 3, 4, 5, 8] 24 (fun g so _ _ _ si wr => ∃ (k : Nat) (a : Option Addr) (c : Nat) (vs : List FmV), k + g = 24 ∧ si = .int .i64 k ∧ so = .slice a vs.length c ∧ vs.map FmV.fm = fams.take k ∧ OwnF w.heap.size wr a c vs ∧ (∀ v ∈ vs, StB w.heap.size wr v) ∧
    Blk wr w.heap.size 9 (strsOf linesP) ∧ Below w.heap.size w wr)
  case atStart => exact ⟨0, none, 0, [], by omega, rfl, rfl, rfl, Own.nil, (fun v hv => by cases hv), h0, hb0⟩
  case round =>
    obtain ⟨k, a, c, vs, hkg, rfl, rfl, hvs, ho, hst, hbk, hb⟩ := hrel
    have HKG := Lib.hid hkg
    have HO := Lib.hid ho
    have HVS := Lib.hid hvs
    have HST := Lib.hid hst
    have HBK := Lib.hid hbk
    have hvl : vs.length = k := by
      have h5 := congrArg List.length hvs
      rw [List.length_map, List.length_take, fams_len] at h5
      omega
    have HVL := Lib.hid hvl
    clear hkg ho hvs hst hbk h0 hb0 H0 hvl
    by_cases hlt : k < 24
    · obtain ⟨ln, hln⟩ := get_of_lt (xs := linesP) (k := k) (by rw [lines_len]; exact hlt)
      obtain ⟨hl1, p0, p1, p2, p3, hp, hfm, hl2, hl3⟩ := line_at hln
      have hfk : fams[k]? = some ⟨p0, stepsP p1, p2, p3⟩ := by unfold fams; rw [List.getElem?_map, hln]; exact congrArg some hfm
      have hmw : MaxL wr := HM.out.ext (Ext.below hb)
      have hc0 : wr.cell? ⟨w.heap.size, k, none⟩ = some (.string (ofL ln)) := by
        rw [HBK.out.cell k]
        simp [strsOf, hln]
      have CS1 := fun W (hW : MaxL W) => split_strs ln [32, 124, 32] [p0, p1, p2, p3] 100 (by simp) hp (by simp) W hW (by omega)
      have hp1l : p1.length ≤ 10000 := by omega
      have hts : (trimSemi p1).length < 4294967281 := by have := trimSemi_len p1; omega
      have CT := fun W => trim_strs p1 W hp1l
      have CS2 := fun W (hW : MaxL W) => split_strs (trimSemi p1) [59, 32] (stepsP p1) 100 (by simp) rfl (by omega) W hW hts
      obtain ⟨st, hstp⟩ : ∃ st, stepsP p1 = st := ⟨_, rfl⟩
      rw [hstp] at hfk hl2
      simp only [hstp] at CS2
      have HFK := Lib.hid hfk
      replace CS1 := Lib.hid CS1; replace CT := Lib.hid CT; replace CS2 := Lib.hid CS2
      have HMW := Lib.hid hmw
      clear hln hl1 hp hfm hfk hp1l hts hstp hmw
      go_wp2_with fail
      refine (CS1.out wr HMW.out).mono ?_
      rintro e w1 ⟨rfl, hw1⟩
      have z1 : Blk w1 wr.heap.size 9 (strsOf [p0, p1, p2, p3]) := by rw [← hw1]; exact Blk.new _ _ _
      have b1 : Below wr.heap.size wr w1 := by rw [← hw1]; exact (Below.refl _ _).alloc (Nat.le_refl _) _
      have x1 : w1.cell? ⟨wr.heap.size, 1, none⟩ = some (.string (ofL p1)) := z1.cell 1
      clear hw1 hc0 CS1
      have Z1 := Lib.hid z1
      go_wp2_with fail
      refine (CT.out w1).mono ?_
      rintro e w1' ⟨rfl, rfl⟩
      go_wp2_with fail
      refine (CS2.out w1 (HMW.out.ext (Ext.below b1))).mono ?_
      rintro e w2 ⟨rfl, hw2⟩
      have z2 : Blk w2 w1.heap.size 9 (strsOf st) := by rw [← hw2]; exact Blk.new _ _ _
      have b2 : Below w1.heap.size w1 w2 := by rw [← hw2]; exact (Below.refl _ _).alloc (Nat.le_refl _) _
      have z12 := Z1.out.below' b2
      have y0 : ∀ w', Below w2.heap.size w2 w' → w'.cell? ⟨wr.heap.size, 0, none⟩ = some (.string (ofL p0)) := fun w' hw' => (z12.below' hw').cell 0
      have y2 : ∀ w', Below w2.heap.size w2 w' → w'.cell? ⟨wr.heap.size, 2, none⟩ = some (.string (ofL p2)) := fun w' hw' => (z12.below' hw').cell 2
      have y3 : ∀ w', Below w2.heap.size w2 w' → w'.cell? ⟨wr.heap.size, 3, none⟩ = some (.string (ofL p3)) := fun w' hw' => (z12.below' hw').cell 3
      have Z2 := Lib.hid z2
      have b12 := below_then b1 b2
      have hB := below_then hb b12
      have HO2 := Lib.hid (HO.out.below b12)
      clear hw2 z1 z2 z12 x1 Z1 CS2 CT
      go_wp2
      have s0 : Below w2.heap.size w2 w2.drew := (Below.refl _ _).drew
      refine wp_region_mix (S := Below w2.heap.size w2) [(0, .q), (1, .q), (2, .q), (3, .q), (4, .q), (5, .q), (6, .q), (7, .q), (8, .q), (9, .q), (10, .q), (11, .q), (12, .l), (13, .t), (14, .p)] (by kernel_rfl) (by kernel_rfl) (by kernel_rfl) (fun d _ _ _ _ h => by cases d <;> exact h) (s0) ?_
      iterate 12 (refine wpMix_q rfl rfl (fun K hK => ?_); apply Exists.intro; refine ⟨fun w' hw' => ?_, ?_⟩; (focus (go_simp; try rfl)); go_simp; refine hK _ _ ?_; clear hK K)
      refine wpMix_l rfl rfl (fun K hK => ?_)
      go_simp
      refine hK.out _ _ ((s0.alloc (by simp) _)) (fun _ => ?_)
      clear hK K
      refine wpMix_t rfl rfl (fun K hK => ?_)
      obtain ⟨v, hv⟩ : ∃ v : FmV, v = ⟨⟨p0, st, p2, p3⟩, w1.heap.size⟩ := ⟨_, rfl⟩
      refine wp_append_1 (.tmp 19) (.tmp 31) 42 rfl Tryd.underlying42 infoF rfl (by omega) (by omega) FmV.cs_len a c rfl ((HO2.out.alloc _).drew) v (FmV.cs_one v) w2.heap.size 1 rfl ?_ (vs ++ [v]) rfl (by simp; have := HVL.out; omega) (by have := hB.size; simp; omega) ?_
      · intro j u hu
        have e1 := (Blk.new w2 41 (FmV.cs ⟨⟨p0, st, p2, p3⟩, w1.heap.size⟩).toArray).cell j
        simp only [List.getElem?_toArray] at e1
        rw [hv] at hu
        exact e1.trans hu
      intro a4 c4 w4 ho4 hg4 hx4
      go_simp
      refine hK.out _ _ ?_
      clear hK K
      iterate 1 (refine wpMix_p rfl rfl (fun K hK => ?_); apply Exists.intro; refine ⟨fun w' => ?_, ?_⟩; (focus (go_simp; try rfl)); go_simp; refine hK _ _ ?_; clear hK K)
      refine wpMix_nil ?_
      go_wp2
      have keep : ∀ {g : Nat} {cs : Array Value}, Blk w2 g 9 cs → Blk w4 g 9 cs := fun hz =>
        ((hz.alloc (.cells #[.string (ofL p0), .slice (some ⟨w1.heap.size, 0, none⟩) st.length st.length, .string (ofL p2), .string (ofL p3)] 41)).drew).grown hg4
          (Own.ne_blk ((HO2.out.alloc (.cells #[.string (ofL p0), .slice (some ⟨w1.heap.size, 0, none⟩) st.length st.length, .string (ofL p2), .string (ofL p3)] 41)).drew)
            ((hz.alloc (.cells #[.string (ofL p0), .slice (some ⟨w1.heap.size, 0, none⟩) st.length st.length, .string (ofL p2), .string (ofL p3)] 41)).drew) fam_ne_str)
      go_roundg (gk - 1)
      case rel =>
        refine ⟨k + 1, a4, c4, vs ++ [v], by have := HKG.out; omega, by go_num, by simp, ?_, ho4, ?_, keep ((HBK.out.below' b12)), ?_⟩
        · rw [List.map_append, HVS.out, take_more HFK.out, hv]; rfl
        · intro x hx
          rcases List.mem_append.1 hx with h1 | h1
          · have h2 := (HST.out x h1).below b12
            exact ⟨h2.1, keep h2.2⟩
          · simp only [List.mem_singleton] at h1
            subst h1
            rw [hv]
            exact ⟨below_then hb b1 |>.size, keep Z2.out⟩
        · exact below_append' ((hB.alloc hB.size _).drew) ((HO2.out.alloc _).drew) hg4
      case measure => have := HKG.out; omega
    · have hk : k = 24 := by have := HKG.out; omega
      have hvl : vs.length = 24 := by have := HVL.out; omega
      have hv : vs.map FmV.fm = fams := by rw [HVS.out, List.take_of_length_le (by rw [fams_len]; omega)]
      have HV := Lib.hid hv
      have HL24 := Lib.hid hvl
      clear hv hvl hk
      go_wp2
      go_ret
      exact ⟨a, c, vs, (show Ending.returned (.slice a vs.length c) = .returned (.slice a 24 c) by rw [HL24.out]), HV.out, HO.out, HST.out, hb⟩
end Go.Proofs.YtmeplgagpnligaaDoor

/- Slices of strings and of integers that a call makes itself: this program's types. -/
namespace Go.Proofs.YtmeplgagpnligaaDoor
open Go.RowKit

def strC (s : ByteArray) : List Value := [.string s]
def intC (x : Int) : List Value := [.int .i64 x]
theorem strC_len (s : ByteArray) : (strC s).length = 1 := rfl
theorem intC_len (s : Int) : (intC s).length = 1 := rfl
theorem strC_one (s : ByteArray) : ∀ u ∈ strC s, u.oneCell' = true := by simp [strC, Value.oneCell']
theorem intC_one (s : Int) : ∀ u ∈ intC s, u.oneCell' = true := by simp [intC, Value.oneCell']
theorem strC_cell {w : World} {b : Nat} {s : ByteArray} (h : w.cell? ⟨b, 0, none⟩ = some (.string s)) : ∀ j u, (strC s)[j]? = some u → w.cell? ⟨b, j, none⟩ = some u := by
  intro j u hu
  match j, hu with
  | 0, hu => simp [strC] at hu; subst hu; exact h
theorem intC_cell {w : World} {b : Nat} {s : Int} (h : w.cell? ⟨b, 0, none⟩ = some (.int .i64 s)) : ∀ j u, (intC s)[j]? = some u → w.cell? ⟨b, j, none⟩ = some u := by
  intro j u hu
  match j, hu with
  | 0, hu => simp [intC] at hu; subst hu; exact h
/-- the call owns a slice of strings -/
abbrev OwnS (B : Nat) (w : World) (a : Option Addr) (c : Nat) (l : List ByteArray) : Prop := Own strC 1 9 B w a c l
/-- the call owns a slice of integers -/
abbrev OwnI (B : Nat) (w : World) (a : Option Addr) (c : Nat) (l : List Int) : Prop := Own intC 1 3 B w a c l
theorem infoS : (Tryd.prog.info? 9).map (fun i => (i.zero, i.size, i.bytes)) = some (some (.string ⟨#[]⟩), 1, 16) := by kernel_rfl
theorem infoI : (Tryd.prog.info? 3).map (fun i => (i.zero, i.size, i.bytes)) = some (some (.int .i64 0), 1, 8) := by kernel_rfl
section
variable {B : Nat} {w : World} {a : Option Addr} {c : Nat}
theorem OwnS.at1 {l : List ByteArray} (h : OwnS B w a c l) {k : Nat} {x : ByteArray} (hx : l[k]? = some x) : ∃ g, a = some ⟨g, 0, none⟩ ∧ B ≤ g ∧ g < w.heap.size ∧ w.cell? ⟨g, k, none⟩ = some (.string x) := by
  obtain ⟨g, ha, hb, hlt, hc⟩ := h.at_ strC_len hx
  exact ⟨g, ha, hb, hlt, by simpa using hc 0 _ rfl⟩
theorem OwnI.at1 {l : List Int} (h : OwnI B w a c l) {k : Nat} {x : Int} (hx : l[k]? = some x) : ∃ g, a = some ⟨g, 0, none⟩ ∧ B ≤ g ∧ g < w.heap.size ∧ w.cell? ⟨g, k, none⟩ = some (.int .i64 x) := by
  obtain ⟨g, ha, hb, hlt, hc⟩ := h.at_ intC_len hx
  exact ⟨g, ha, hb, hlt, by simpa using hc 0 _ rfl⟩
theorem OwnS.reads1 {l : List ByteArray} (h : OwnS B w a c l) : StrsR w a c l :=
  Own.reads strC_len h fun g o x hx hc => show w.cell? _ = _ by simpa using hc 0 _ rfl
theorem OwnI.reads1 {l : List Int} (h : OwnI B w a c l) (hs : ∀ s ∈ l, InInt s) : IntsR w a c l :=
  Own.reads intC_len h fun g o x hx hc => ⟨by simpa using hc 0 _ rfl, wf_of (hs x hx)⟩
end

/-- 'l = append(l, s)', s a string -/
theorem append_str {B : Nat} {w : World} {l : List ByteArray} {ops : Array Oper} {rest : List Oper} {o : Oper} {act : Act} {Q : Exit → Act → World → Prop} (hgd : o.guard = none) (s y : Operand)
    (ho : o.op = .call { callee := .builtin .append, args := #[s, y], argTypes := #[39, 39] })
    (a : Option Addr) (c : Nat) (hs : act.eval s = .slice a l.length c) (hown : OwnS B w a c l)
    (x : ByteArray) (b c1 : Nat) (hy : act.eval y = .slice (some ⟨b, 0, none⟩) 1 c1) (hcell : w.cell? ⟨b, 0, none⟩ = some (.string x))
    (l2 : List ByteArray) (hl2 : l2 = l ++ [x]) (hlen : l2.length ≤ 16777216) (hB : B ≤ w.heap.size)
    (h : ∀ a' c' w', OwnS B w' a' c' l2 → w.grownBy w' (Value.ownBlock (.slice a l.length c)) → ((∃ g, a' = some ⟨g, 0, none⟩ ∧ (a = some ⟨g, 0, none⟩ ∨ g = w.heap.size))) →
      wpList Tryd.prog ops Q rest (act.put o.dst (.slice a' l2.length c')) w') : wpList Tryd.prog ops Q (o :: rest) act w :=
  wpList_append_1 hgd s y 39 ho Tryd.underlying39 infoS rfl (by omega) (by omega) strC_len a c hs hown x (strC_one x) b c1 hy (strC_cell hcell) l2 hl2 hlen hB h
/-- 'l = append(l, n)', n an integer -/
theorem append_int {B : Nat} {w : World} {l : List Int} {ops : Array Oper} {rest : List Oper} {o : Oper} {act : Act} {Q : Exit → Act → World → Prop} (hgd : o.guard = none) (s y : Operand)
    (ho : o.op = .call { callee := .builtin .append, args := #[s, y], argTypes := #[22, 22] })
    (a : Option Addr) (c : Nat) (hs : act.eval s = .slice a l.length c) (hown : OwnI B w a c l)
    (x : Int) (b c1 : Nat) (hy : act.eval y = .slice (some ⟨b, 0, none⟩) 1 c1) (hcell : w.cell? ⟨b, 0, none⟩ = some (.int .i64 x))
    (l2 : List Int) (hl2 : l2 = l ++ [x]) (hlen : l2.length ≤ 16777216) (hB : B ≤ w.heap.size)
    (h : ∀ a' c' w', OwnI B w' a' c' l2 → w.grownBy w' (Value.ownBlock (.slice a l.length c)) → ((∃ g, a' = some ⟨g, 0, none⟩ ∧ (a = some ⟨g, 0, none⟩ ∨ g = w.heap.size))) →
      wpList Tryd.prog ops Q rest (act.put o.dst (.slice a' l2.length c')) w') : wpList Tryd.prog ops Q (o :: rest) act w :=
  wpList_append_1 hgd s y 22 ho Tryd.underlying22 infoI rfl (by omega) (by omega) intC_len a c hs hown x (intC_one x) b c1 hy (intC_cell hcell) l2 hl2 hlen hB h

end Go.Proofs.YtmeplgagpnligaaDoor

/- 'l = append(l, m...)', m a row of some elements. No function of the program in sight. -/
namespace Go.Proofs.YtmeplgagpnligaaDoor
open Go.RowKit
section
variable {α : Type} {f : α → List Value} {sz : Nat} {t : TypeId} {B : Nat} {w : World} {l : List α} {P : Program}
theorem wp_append_n {o : Oper} {act : Act} {K : Act → World → Prop} {Q : Exit → Act → World → Prop} (s y : Operand) (ts : TypeId)
    (ho : o.op = .call { callee := .builtin .append, args := #[s, y], argTypes := #[ts, ts] })
    {z : Value} {bytes : Nat} (ht : P.underlying ts = some (.slice t)) (hi : (P.info? t).map (fun i => (i.zero, i.size, i.bytes)) = some (some z, sz, bytes)) (hz : z.cells.size = sz) (hsz : 0 < sz) (hby : bytes ≤ 1024)
    (hf : ∀ x, (f x).length = sz) (a : Option Addr) (c : Nat) (hs : act.eval s = .slice a l.length c) (hown : Own f sz t B w a c l)
    (m : List α) (hm : m ≠ []) (hone : ∀ u ∈ m.flatMap f, u.oneCell' = true) (p : Addr) (c1 : Nat) (hy : act.eval y = .slice (some p) m.length c1) (hcell : ∀ j u, (m.flatMap f)[j]? = some u → w.cell? (p.add j) = some u)
    (l2 : List α) (hl2 : l2 = l ++ m) (hlen : l2.length ≤ 16777216) (hB : B ≤ w.heap.size)
    (h : ∀ a' c' w', Own f sz t B w' a' c' l2 → w.grownBy w' (Value.ownBlock (.slice a l.length c)) → ((∃ g, a' = some ⟨g, 0, none⟩ ∧ (a = some ⟨g, 0, none⟩ ∨ g = w.heap.size))) →
      K (act.put o.dst (.slice a' l2.length c')) w') : o.wp P act w K Q := by
  subst hl2
  obtain ⟨i, hi0, hz0, hz1, hz2⟩ := info_parts hi
  simp only [List.length_append] at hlen
  have hml : 0 < m.length := List.length_pos_iff.2 hm
  have hfl : (m.flatMap f).length = m.length * sz := by
    clear hone hcell hm hy hlen hml h
    induction m with
    | nil => simp
    | cons x m ih => simp only [List.flatMap_cons, List.length_append, List.length_cons, ih, hf, Nat.add_mul]; omega
  obtain ⟨v', w', hr, h2, h3, _, h5⟩ := run_append_own_at (P := P) w B ts o.type t i z sz bytes ht hi0 hz0 hz1 hz2 hz hsz (.slice a l.length c) l.length (l.flatMap f) hown p m.length c1 (m.flatMap f) hfl
    hcell hone (by unfold maxLen; omega)
    (by have : (l.length + m.length) * bytes ≤ 16777216 * 1024 := Nat.mul_le_mul hlen hby
        omega) hB
  unfold Oper.wp execOp
  simp only [ho, resolve, invoke, builtin, Sem.run_bind, Sem.run_pure, Result.andThen_ok, List.map_toArray, List.map_cons, List.map_nil, hs, hy, hr]
  have hf2 : (l ++ m).flatMap f = l.flatMap f ++ m.flatMap f := by simp
  have hn : (l ++ m).length = l.length + m.length := by simp
  obtain ⟨g, cap, hv, hb, hlt⟩ := h2.form (by omega)
  subst hv
  rw [← hn]
  refine h _ _ w' (by unfold Own; rw [hf2, hn]; exact h2) h3 ⟨g, rfl, ?_⟩
  rcases h5 with h5 | h5
  · left
    cases a with
    | none => simp [Value.ownBlock] at h5
    | some g' =>
      have hg' : g = g'.block := by simpa [Value.ownBlock] using h5
      rcases hown.2 with ⟨e, _⟩ | ⟨g2, _, _, e, _⟩
      · cases e
      · injection e with e1
        injection e1 with e1
        subst e1
        simp at hg'
        rw [hg']
  · right
    simpa [Value.ownBlock] using h5
/-- the empty row -/
theorem wp_append_0 {o : Oper} {act : Act} {K : Act → World → Prop} {Q : Exit → Act → World → Prop} (s y : Operand) (ts : TypeId)
    (ho : o.op = .call { callee := .builtin .append, args := #[s, y], argTypes := #[ts, ts] })
    (ht : P.underlying ts = some (.slice t)) {i : TypeInfo} (hi : P.info? t = some i)
    (a : Option Addr) (n c : Nat) (hnc : n ≤ c) (hs : act.eval s = .slice a n c) (b : Option Addr) (c1 : Nat) (hy : act.eval y = .slice b 0 c1)
    (h : K (act.put o.dst (.slice a n c)) w) : o.wp P act w K Q := by
  have hsrc : Src P i.size ts (.slice b 0 c1) 0 [] w := by
    cases b with
    | none => exact Src.ofNil w ht c1
    | some p => exact Src.ofSlice w ht p 0 c1 [] (by simp) (fun j u hu => by simp at hu) (fun u hu => by cases hu)
  have hr := run_append_nothing (P := P) w ts ts o.type t i ht hi a n c hnc _ hsrc
  unfold Oper.wp execOp
  simp only [ho, resolve, invoke, builtin, Sem.run_bind, Sem.run_pure, Result.andThen_ok, List.map_toArray, List.map_cons, List.map_nil, hs, hy, hr]
  exact h
end
/-- 'l = append(l, m...)', m a row of strings, empty or not -/
theorem append_strs {B : Nat} {w : World} {l : List ByteArray} {ops : Array Oper} {rest : List Oper} {o : Oper} {act : Act} {Q : Exit → Act → World → Prop} (hgd : o.guard = none) (s y : Operand)
    (ho : o.op = .call { callee := .builtin .append, args := #[s, y], argTypes := #[39, 39] })
    (a : Option Addr) (c : Nat) (hs : act.eval s = .slice a l.length c) (hown : OwnS B w a c l) (m : List ByteArray) (b : Option Addr) (c1 : Nat) (hy : act.eval y = .slice b m.length c1) (hm : StrsR w b c1 m)
    (l2 : List ByteArray) (hl2 : l2 = l ++ m) (hlen : l2.length ≤ 16777216) (hB : B ≤ w.heap.size)
    (h : ∀ a' c' w', OwnS B w' a' c' l2 → w.grownBy w' (Value.ownBlock (.slice a l.length c)) → wpList Tryd.prog ops Q rest (act.put o.dst (.slice a' l2.length c')) w') : wpList Tryd.prog ops Q (o :: rest) act w := by
  subst hl2
  refine wpList_plain hgd fun _ hK => ?_
  cases m with
  | nil =>
    obtain ⟨i, hi, _⟩ := info_parts infoS
    refine wp_append_0 s y 39 ho Tryd.underlying39 hi a l.length c hown.cap.1 hs b c1 hy ?_
    have := h a c w (by simpa using hown) (World.grownBy.refl _ _)
    simp only [List.append_nil] at this
    exact hK _ _ this
  | cons x m =>
    obtain ⟨bb, off, hb, _⟩ := hm.2.2 0 x rfl
    refine wp_append_n s y 39 ho Tryd.underlying39 infoS rfl (by omega) (by omega) strC_len a c hs hown (x :: m) (by simp) ?_ ⟨bb, off, none⟩ c1 (by rw [hy, hb]) ?_ _ rfl hlen hB
      fun a' c' w' h1 h2 _ => hK _ _ (h a' c' w' h1 h2)
    · intro u hu
      simp only [List.mem_flatMap] at hu
      obtain ⟨z, _, hz⟩ := hu
      exact strC_one z u hz
    · intro j u hu
      have hf : (x :: m).flatMap strC = (x :: m).map Value.string := by
        generalize (x :: m) = q
        induction q with
        | nil => rfl
        | cons y q ih => simp [strC] at ih ⊢; exact ih
      rw [hf, List.getElem?_map] at hu
      obtain ⟨z, hz, rfl⟩ := Option.map_eq_some_iff.1 hu
      obtain ⟨b2, off2, hb2, hc⟩ := hm.2.2 j z hz
      rw [hb] at hb2
      injection hb2 with e
      injection e with e1 e2
      subst e1
      subst e2
      rw [Addr.add_lit]
      simpa [StrE] using hc
end Go.Proofs.YtmeplgagpnligaaDoor

/- A range over a string beside other blocks. No function of the program in sight. -/
namespace Go.Proofs.YtmeplgagpnligaaDoor
open Go.RowKit
/-- block g is an iterator over s that stands at pos -/
def Itr (w : World) (g : Nat) (s : ByteArray) (pos : Nat) : Prop := w.heap[g]? = some (.stringIter s pos)
def setItr (w : World) (g : Nat) (s : ByteArray) (pos : Nat) : World := { w with heap := w.heap.setIfInBounds g (.stringIter s pos) }
theorem run_next_at {P : Program} (w : World) (g : Nat) (s : ByteArray) (pos : Nat) (ty : TypeId) (hi : Itr w g s pos) (h : pos < s.size) (ha : (s[pos]'h).toNat < 128) :
    (Instr.next (.pointer (some ⟨g, 0, none⟩)) true ty).run P w = .ok (.tuple #[.bool true, .int .i64 pos, .int .i32 (s[pos]'h).toNat]) (setItr w g s (pos + 1)) := by
  unfold Itr at hi
  simp only [Instr.next, getObj, setObj, Sem.run_bind, Sem.run, hi, Result.andThen, h, if_true, decode_ascii s pos h ha]
  simp [goInt, setItr]
theorem run_next_stop {P : Program} (w : World) (g : Nat) (s : ByteArray) (pos : Nat) (ty : TypeId) (hi : Itr w g s pos) (h : ¬ pos < s.size) :
    (Instr.next (.pointer (some ⟨g, 0, none⟩)) true ty).run P w = .ok (.tuple #[.bool false]) w := by
  unfold Itr at hi
  simp [Instr.next, getObj, Sem.run, hi, h]
theorem Itr.lt {w : World} {g : Nat} {s : ByteArray} {pos : Nat} (h : Itr w g s pos) : g < w.heap.size := (Array.getElem?_eq_some_iff.1 h).1
theorem Itr.below {w w' : World} {g : Nat} {s : ByteArray} {pos : Nat} (h : Itr w g s pos) (hb : Below w.heap.size w w') : Itr w' g s pos := (hb.block g h.lt).trans h
theorem Itr.grown {w w' : World} {g : Nat} {s : ByteArray} {pos : Nat} {row : Option Nat} (h : Itr w g s pos) (hb : w.grownBy w' row) (hg : some g ≠ row) : Itr w' g s pos := (hb.block g h.lt hg).trans h
theorem Itr.set {w : World} {g : Nat} {s : ByteArray} {pos : Nat} (h : Itr w g s pos) (pos' : Nat) : Itr (setItr w g s pos') g s pos' := by
  unfold Itr setItr
  simp [h.lt]
theorem setItr_size (w : World) (g : Nat) (s : ByteArray) (pos : Nat) : (setItr w g s pos).heap.size = w.heap.size := by simp [setItr]
theorem setItr_far (w : World) (g : Nat) (s : ByteArray) (pos : Nat) (k : Nat) (hk : k ≠ g) : (setItr w g s pos).heap[k]? = w.heap[k]? := by
  simp [setItr, Ne.symm hk]
theorem below_setItr {B : Nat} {a w : World} (h : Below B a w) {g : Nat} (hg : B ≤ g) (s : ByteArray) (pos : Nat) : Below B a (setItr w g s pos) :=
  h.trans ⟨rfl, rfl, rfl, by rw [setItr_size]; exact Nat.le_refl _, fun k hk => setItr_far _ _ _ _ _ (by omega)⟩
theorem Own.setItr {α : Type} {f : α → List Value} {sz : Nat} {t : TypeId} {B : Nat} {w : World} {a : Option Addr} {c : Nat} {l : List α} (h : Own f sz t B w a c l) {g : Nat} (hg : g < B) (s : ByteArray) (pos : Nat) :
    Own f sz t B (setItr w g s pos) a c l := by
  refine ⟨h.1, ?_⟩
  rcases h.2 with hn | ⟨g', cap, cur, e, hg', hh, rest⟩
  · exact .inl hn
  · exact .inr ⟨g', cap, cur, e, hg', (setItr_far w g s pos _ (by omega)).trans hh, rest⟩
theorem setItr_cell (w : World) (g : Nat) (s : ByteArray) (pos : Nat) (p : Addr) (hp : p.block ≠ g) : (setItr w g s pos).cell? p = w.cell? p := by
  unfold World.cell?
  rw [setItr_far _ _ _ _ _ hp]
end Go.Proofs.YtmeplgagpnligaaDoor
