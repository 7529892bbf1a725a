/- Walk: the text of a term by the reference. -/
import Derived.Test.YtkjnkpkagcboeaaGreatDoorCe24
import Derived.Test.YtkjnkpkagcboeaaGreatDoorCe15
import Derived.Test.YtkjnkpkagcboeaaGreatDoorCe21
import Derived.Test.YtkjnkpkagcboeaaGreatDoorCe13
import Derived.Test.YtkjnkpkagcboeaaGreatDoorCe10
import Derived.Test.YtkjnkpkagcboeaaGreatDoorCe23
import Derived.Test.YtkjnkpkagcboeaaGreatDoorCe8
import Derived.Test.YtkjnkpkagcboeaaGreatDoorCe1
import Derived.LoopTactic
import Derived.Deep.LoopGhost
import Derived.Test.YtkjnkpkagcboeaaGreatDoorCe22
import Derived.Test.YtkjnkpkagcboeaaGreatDoorCe5
set_option linter.all false
set_option maxRecDepth 100000
set_option maxHeartbeats 4000000
namespace Go.Proofs.YtkjnkpkagcboeaaGreatDoor
open Go.RowKit
def RetCr (R : CrQ × Nat × Int) (w : World) (e : Ending) (w' : World) : Prop := ∃ (fa wa ca : Option Addr) (fc wc cc : Nat), e = .returned (.tuple #[.agg #[.slice fa R.1.F.length fc, .slice wa R.1.P.length wc, .int .i64 R.1.n, .slice ca R.1.C.length cc], .int .i64 R.2.1, .int .i64 R.2.2]) /\ Below w.heap.size w w' /\
 PolysR w' fa fc (R.1.F.map (·.map trmOf)) /\ IntsR w' wa wc R.1.P /\ PolysR w' ca cc (R.1.C.map (·.map trmOf))
theorem retCr_bad {R : CrQ × Nat × Int} {n : Nat} {er : Int} {w w' : World} (hR : R = (noQ, n, er)) (hb : Below w.heap.size w w') : RetCr R w (.returned (.tuple #[.agg #[.slice none 0 0, .slice none 0 0, .int .i64 0, .slice none 0 0], .int .i64 n, .int .i64 er])) w' := by
 subst hR
 exact ⟨none, none, none, 0, 0, 0, rfl, hb, SlR.nil, SlR.nil, SlR.nil⟩
theorem linP_part {names : List ByteArray} {part : Nat} {c c' : CrQ} {t : List UInt8} {q : Nat} {x : Int} (h : linP names part c t = (some (q, c'), x)) : q = 3 \/ q = partQ c' := by
 unfold linP at h
 split at h
 ·
  split at h
  ·
   next c1 hf =>
   injection h with h _
   injection h with h
   injection h with h1 h2
   subst h1 h2
   right
   have h0 : c1.C = [] := by
    unfold firstQ at hf
    split at hf
    ·
     split at hf
     · obtain ⟨n, _, rfl⟩ := Option.map_eq_some_iff.1 hf; rfl
     · cases hf
    · cases hf
   unfold partQ
   rw [if_pos h0]
  · cases h
 ·
  split at h
  · cases h
  ·
   split at h
   ·
    injection h with h _
    injection h with h
    injection h with h1 _
    exact .inl h1.symm
   ·
    split at h
    ·
     injection h with h _
     injection h with h
     injection h with h1 h2
     right
     rw [<- h1, <- h2]
     rfl
    · cases h
theorem certRead_any (s : ByteArray) (names : List ByteArray) (na : Option Addr) (nc : Nat) (w : World) (hE : ∀ W, Below w.heap.size w W -> EnvC names na nc W) (hnz : ∀ x ∈ names, x.size <= 1048576) (hnl : names.length <= 1000) (hs : s.size < 4294967281)
  (hL : (linesL s.data.toList).length <= 16000000) (hW : ∀ k t, (linesL s.data.toList)[k]? = some t -> k + 1 < (linesL s.data.toList).length -> WokL names t) :
  Calls Tryz.prog 19 #[.string s, .slice na names.length nc] w (RetCr (readQ names s.data.toList) w) := by
 have CS := fun W (hW : Below w.heap.size w W) => split_any s ⟨#[10]⟩ W (hE W hW).2.1 hs (by decide)
 obtain ⟨hsp1, hsp2⟩ := split_lines s.data.toList
 rw [ofL_data] at hsp1 hsp2
 rw [<- runP_read]
 obtain ⟨L, hLL⟩ : ∃ L, linesL s.data.toList = L := ⟨_, rfl⟩
 have hL1 := (linesL_len s.data.toList).1
 have hszl : ∀ t ∈ L, t.length <= s.size := fun t ht => by rw [<- hLL] at ht; exact linesL_short _ t ht
 rw [hLL] at hsp1 hsp2 hL hW hL1 ⊢
 have e10 : (⟨#[10]⟩ : ByteArray) = ofL [10] := rfl
 rw [e10] at CS
 rw [hsp1, hsp2] at CS
 obtain ⟨R, hR⟩ : ∃ R, runP names 0 noQ 1 L = R := ⟨_, rfl⟩
 have hok := fun (c : CrQ) (e : R = (c, 0, 0)) => (readQ_form (names := names) (s := s.data.toList) (c := c) (k := 0) (by rw [<- runP_read, hLL, hR]; exact e)).2.1.2.2.1
 replace hok := Hd hok
 rw [hR]
 replace CS := Hd CS; replace hR := Hd hR; replace hW := Hd hW; replace hszl := Hd hszl
 have HE := Hd hE; have HNZ := Hd hnz
 rw [<- e10] at CS
 clear hE hnz hsp1 hsp2 hLL e10
 go_enter Tryz.func19, Tryz.ntmps19
 go_wp2_with fail
 refine calls_gen (fun W => Blk W w.heap.size 40 #[.slice none 0 0, .slice none 0 0, .int .i64 0, .slice none 0 0] /\ Below w.heap.size w W /\ W.heap.size = w.heap.size + 1) ⟨bN rfl, brf.alloc (nlr _) _, by simp⟩ ?_
 rintro w0 ⟨hz0, hw0, hs0⟩
 refine (CS.out w0 hw0).mono ?_
 rintro e w1 ⟨rfl, rfl⟩
 obtain ⟨b0, hb0⟩ : ∃ q, w.heap.size = q := ⟨_, rfl⟩
 rw [hb0] at hz0 hs0 ⊢
 rw [hs0]
 have hrow := Blk.new w0 9 ((L.map ofL).map Value.string).toArray
 rw [hs0] at hrow
 have hz1 := bA (o := .cells ((L.map ofL).map Value.string).toArray 9) hz0
 have hw1 := hw0.alloc hw0.size (.cells ((L.map ofL).map Value.string).toArray 9)
 obtain ⟨w1, hw1e⟩ : ∃ W, w0.alloc (.cells ((L.map ofL).map Value.string).toArray 9) = W := ⟨_, rfl⟩
 have hs1 : w1.heap.size = b0 + 1 + 1 := by rw [<- hw1e]; simp [hs0]
 rw [hw1e] at hrow hz1 hw1 ⊢
 obtain ⟨b1, hb1⟩ : ∃ q, b0 + 1 = q := ⟨_, rfl⟩
 rw [hb1] at hrow hs1 ⊢
 obtain ⟨b2, hb2⟩ : ∃ q, b1 + 1 = q := ⟨_, rfl⟩
 rw [hb2] at hs1
 have hb0' := Hd hb0; have hb1' := Hd hb1; have hb2' := Hd hb2; have hs1' := Hd hs1
 have hrow' := Hd hrow; have hz1' := Hd hz1; have hw1' := Hd hw1
 clear hb0 hb1 hb2 hs1 hrow hz1 hw1 hz0 hw0 hs0 hw1e CS
 go_wp2
 refine world_gen (fun W => Blk W w1.heap.size 83 #[.slice (some ⟨b1, 0, none⟩) L.length L.length, .int .i64 ((0 : Nat) : Int)] /\ Blk W (w1.heap.size + 1) 87 #[.slice na names.length nc, .slice none 0 0, .slice none 0 0, .int .i64 0, .slice none 0 0, .int .i64 0] /\ Blk W b0 40 #[.slice none 0 0, .slice none 0 0, .int .i64 0, .slice none 0 0] /\ Blk W b1 9 ((L.map ofL).map Value.string).toArray /\ Below w.heap.size w W) ⟨bA (bN rfl), bN (by simp), bA (bA hz1'.out), bA (bA hrow'.out), (hw1'.out.alloc hw1'.out.size _).alloc (by have := hw1'.out.size; simp; omega) _⟩ ?_
 rintro w2 ⟨hq, hg, hz, hrow, hw2⟩
 obtain ⟨b2, hb2⟩ : ∃ q, w1.heap.size = q := ⟨_, rfl⟩
 rw [hb2] at hq hg ⊢
 obtain ⟨g, hge⟩ : ∃ q, b2 + 1 = q := ⟨_, rfl⟩
 rw [hge] at hg ⊢
 have hO := Hd (show w.heap.size <= b0 /\ b0 < b1 /\ b1 < b2 /\ b2 < g from ⟨by have := hb0'.out; omega, by have := hb1'.out; omega, by have := hs1'.out; have := hb2'.out; omega, by omega⟩)
 clear hb2 hge hb0' hb1' hb2' hs1' hrow' hz1' hw1'
 go_loopg [10, 11, 12, 13] L.length (fun gk s10 _ _ _ wr => ∃ (k part : Nat) (c : CrQ), Hid (k + gk = L.length /\ 0 < gk) /\ s10 = .int .i64 ((k + 1 : Nat) : Int) /\ Hid (Blk wr b2 83 #[.slice (some ⟨b1, 0, none⟩) L.length L.length, .int .i64 (k : Int)]) /\ Hid (Blk wr b0 40 #[.slice none 0 0, .slice none 0 0, .int .i64 0, .slice none 0 0]) /\ Hid (Blk wr b1 9 ((L.map ofL).map Value.string).toArray) /\ Hid (CrSt g (.slice na names.length nc) k wr c part) /\ Hid (runP names part c (k + 1) (L.drop k) = R) /\ Hid ((part = 0 /\ c = noQ) \/ part = 3 \/ part = partQ c) /\ Hid (Below w.heap.size w wr))
 case atStart => exact ⟨0, 0, noQ, by show _ /\ _; omega, rfl, hq, hz, hrow, ⟨none, 0, [], none, 0, none, 0, [], hg, CrRows.nil, nlr _, nlr _, nlr _⟩, hR.out, .inl ⟨rfl, rfl⟩, hw2⟩
 case round =>
  clear hq hg hz hrow hw2
  obtain ⟨k, part, c, hk, rfl, hq, hz, hrow, hst, hrun, hpt, hwr⟩ := hrel
  obtain ⟨t, ht⟩ := get_of_lt (xs := L) (k := k) (by have := hk.out; omega)
  have htm := Hd ht
  have hx : wr.cell? ⟨b1, k, none⟩ = some (.string (ofL t)) := by
   rw [hrow.out.cell k]
   simp [ht]
  have CN := Hd (next_any b2 b1 L.length k (ofL t) wr hq.out hx (lt_of_get ht) (by omega) (by have := hO.out; omega))
  have hdr := Hd (show L.drop k = t :: L.drop (k + 1) by
   have h2 := lt_of_get ht
   rw [List.drop_eq_getElem_cons h2]
   rw [List.getElem?_eq_getElem h2] at ht
   injection ht with ht
   rw [ht])
  have hts := Hd (hszl.out t (List.mem_of_getElem? ht))
  clear ht hx
  go_wp2_with fail
  refine CN.out.mono ?_
  rintro e w3 ⟨rfl, hq3, hf3⟩
  have hz3 := hz.out.fr hf3 (by have := hO.out; omega)
  have hrow3 := Hd (hrow.out.fr hf3 (by have := hO.out; omega))
  have hst3 := hst.out.fg hf3 (by have := hO.out; omega)
  have hw3 := Hd (show Below w.heap.size w w3 from Below.fr hwr.out hf3 (fun b hb => by subst hb; have := hO.out; omega) hwr.out.size)
  have hq3' := Hd hq3
  obtain ⟨m, hm⟩ : ∃ m, k + 1 = m := ⟨_, rfl⟩
  have hrun1 := hrun.out
  rw [hdr.out] at hrun1
  rw [hm] at hq3 hrun1 ⊢
  have x0 := hq3.cell 0; have x1 := hq3.cell 1
  have hl3 := hq3.lt
  have y0 := hz3.cell 0; have y1 := hz3.cell 1; have y2 := hz3.cell 2; have y3 := hz3.cell 3
  have p0 := hz3.frozen 0; have p1 := hz3.frozen 1; have p2 := hz3.frozen 2; have p3 := hz3.frozen 3
  have hlz := hz3.lt
  have hz3' := Hd hz3
  have hm' := Hd hm
  have HBD := Hd (fun (v0 v1 v2 v3 : Value) => (((hw3.out.setCell (p := ⟨b0, 0, none⟩) hO.out.1 v0).setCell (p := ⟨b0, 1, none⟩) hO.out.1 v1).setCell (p := ⟨b0, 2, none⟩) hO.out.1 v2).setCell (p := ⟨b0, 3, none⟩) hO.out.1 v3)
  clear CN hz hrow hst hwr hq hf3 hq3 hz3 hdr hrun hm
  by_cases hlast : m = L.length
  ·
   subst hlast
   have hd0 : L.drop L.length = [] := List.drop_length
   rw [hd0, runP_one] at hrun1
   obtain ⟨bt, hbt⟩ : ∃ b, ((ofL t).toList == []) = b := ⟨_, rfl⟩
   have htb : t = [] ↔ bt = true := by rw [<- hbt, toList_data, data_ofL, beq_iff_eq]
   obtain ⟨S, hS⟩ : ∃ S, ofL t = S := ⟨_, rfl⟩
   rw [hS] at hbt ⊢
   clear hS hd0
   cases bt
   ·
    rw [if_neg fun e => by cases htb.1 e.1] at hrun1
    replace hrun1 := Hd hrun1
    clear htb hst3
    go_wp2
    refine world_gen (fun W => Blk W b0 40 #[.slice none 0 0, .slice none 0 0, .int .i64 0, .slice none 0 0] /\ Below w.heap.size w W) ⟨bS (bS (bS (bS hz3'.out rfl) rfl) rfl) rfl, HBD.out _ _ _ _⟩ ?_
    rintro W ⟨hzW, hbW⟩
    have e0 := hzW.cell 0; have e1 := hzW.cell 1; have e2 := hzW.cell 2; have e3 := hzW.cell 3
    refine bodyPost_ret (v := .tuple #[.agg #[.slice none 0 0, .slice none 0 0, .int .i64 0, .slice none 0 0], .int .i64 (L.length : Int), .int .i64 10]) (by simp [results, Tryz.results19, go_sem, e0, e1, e2, e3]) rfl ?_
    exact retCr_bad hrun1.out.symm hbW
   ·
    have ht0 := htb.2 rfl
    obtain ⟨fa, fc, hf, wa, wc, ca, cc, hc, hB, hr, _, _, _⟩ := hst3
    have z5 := hB.cell 5
    have hlg := hB.lt
    by_cases hp3 : part = 3
    ·
     rw [if_pos ⟨ht0, hp3⟩] at hrun1
     subst hp3
     rw [hr.aF.1, hr.aC.1] at hB
     have z1 := hB.cell 1; have z2 := hB.cell 2; have z3 := hB.cell 3; have z4 := hB.cell 4
     have hpx := Hd (hok.out c hrun1.symm)
     replace hrun1 := Hd hrun1; replace hr := Hd hr
     clear htb ht0 hB
     go_wp2
     refine world_gen (fun W => Blk W b0 40 #[.slice fa c.F.length fc, .slice wa c.P.length wc, .int .i64 c.n, .slice ca c.C.length cc] /\ Below w.heap.size w W /\ CrRows g W c.F c.P c.C fa fc hf wa wc ca cc hc) ⟨bS (bS (bS (bS hz3'.out rfl) rfl) rfl) rfl, HBD.out _ _ _ _, hr.out.fr2 (((((Fr.refl _ _).setc (.inl (by have := hO.out; omega))).setc (.inl (by have := hO.out; omega))).setc (.inl (by have := hO.out; omega))).setc (.inl (by have := hO.out; omega)))⟩ ?_
     rintro W ⟨hzW, hbW, hrW⟩
     have e0 := hzW.cell 0; have e1 := hzW.cell 1; have e2 := hzW.cell 2; have e3 := hzW.cell 3
     refine bodyPost_ret (v := .tuple #[.agg #[.slice fa c.F.length fc, .slice wa c.P.length wc, .int .i64 c.n, .slice ca c.C.length cc], .int .i64 0, .int .i64 0]) (by simp [results, Tryz.results19, go_sem, e0, e1, e2, e3]) rfl ?_
     rw [<- hrun1.out]
     exact ⟨fa, wa, ca, fc, wc, cc, rfl, hbW, polysR_of hrW.oF hrW.aF, hrW.oP.reads1 fun x hx => by have := hpx.out x hx; exact ⟨by omega, by omega⟩, polysR_of hrW.oC hrW.aC⟩
    ·
     rw [if_neg fun e => hp3 e.2] at hrun1
     have hp3b : ((part : Int) == 3) = false := by rw [beq_eq_false_iff_ne]; omega
     have hp3c : (part == 3) = false := by rw [beq_eq_false_iff_ne]; exact hp3
     replace hrun1 := Hd hrun1; replace hp3 := Hd hp3
     clear htb ht0 hB hr
     go_wp2
     refine world_gen (fun W => Blk W b0 40 #[.slice none 0 0, .slice none 0 0, .int .i64 0, .slice none 0 0] /\ Below w.heap.size w W) ⟨bS (bS (bS (bS hz3'.out rfl) rfl) rfl) rfl, HBD.out _ _ _ _⟩ ?_
     rintro W ⟨hzW, hbW⟩
     have e0 := hzW.cell 0; have e1 := hzW.cell 1; have e2 := hzW.cell 2; have e3 := hzW.cell 3
     refine bodyPost_ret (v := .tuple #[.agg #[.slice none 0 0, .slice none 0 0, .int .i64 0, .slice none 0 0], .int .i64 (L.length : Int), .int .i64 10]) (by simp [results, Tryz.results19, go_sem, e0, e1, e2, e3]) rfl ?_
     exact retCr_bad hrun1.out.symm hbW
  ·
   have hml : m < L.length := by have := lt_of_get htm.out; have := hm'.out; omega
   have hcb : ((m : Int) == (L.length : Int)) = false := by rw [beq_eq_false_iff_ne]; omega
   have hcc : (m == L.length) = false := by rw [beq_eq_false_iff_ne]; exact hlast
   have hdn : L.drop m ≠ [] := fun e => by have := congrArg List.length e; rw [List.length_drop] at this; simp at this; omega
   rw [runP, if_neg hdn] at hrun1
   have hEg := fun W (hW : Below g w3 W) => HE.out W (hw3.out.trans (hW.mono (by have := hO.out; omega)))
   have hks : (ofL t).size < 4294967281 := by rw [ofL_size]; have := hts.out; omega
   have hkm : k <= 16000000 := by have := hm'.out; omega
   have hWt := hW.out k t htm.out (by have := hm'.out; omega)
   have hlnm : k + 1 = m := hm'.out
   have CLn : Calls Tryz.prog 43 #[.pointer (some ⟨g, 0, none⟩), .string (ofL t)] w3 (RetFa g (.slice na names.length nc) (k + 1) (linP names part c (ofL t).data.toList) w3) := by
    rcases hpt.out with ⟨rfl, rfl⟩ | rfl | hp
    · exact line0_any g names na nc (ofL t) k w3 hst3 hEg hks
    · exact line3_any g names na nc (ofL t) c k w3 hst3 hEg hks
    · exact line1_any g names na nc (ofL t) c part k w3 hp hst3 hkm hEg HNZ.out hnl hks (by rw [data_ofL]; exact hWt)
   rw [data_ofL, hlnm] at CLn
   have hpt2 := fun q c' x (e : linP names part c t = (some (q, c'), x)) => linP_part e
   obtain ⟨G, hG⟩ : ∃ G, linP names part c t = G := ⟨_, rfl⟩
   rw [hG] at CLn hrun1 hpt2
   obtain ⟨S, hS⟩ : ∃ S, ofL t = S := ⟨_, rfl⟩
   rw [hS] at CLn ⊢
   have hrun2 := Hd hrun1
   replace CLn := Hd CLn; replace hpt2 := Hd hpt2
   clear hst3 hEg hks hkm hWt hlnm hdn hG hS hrun1 hpt
   go_wp2_with fail
   refine CLn.out.mono ?_
   rintro e w4 ⟨er, rfl, hb4, hok4, hbad4⟩
   have hz4 := hz3'.out.below hb4 (by have := hO.out; omega)
   have q0 := hz4.cell 0; have q1 := hz4.cell 1; have q2 := hz4.cell 2; have q3 := hz4.cell 3
   have r0 := hz4.frozen 0; have r1 := hz4.frozen 1; have r2 := hz4.frozen 2; have r3 := hz4.frozen 3
   have hlz4 := hz4.lt
   have hw4 := Hd (show Below w.heap.size w w4 from hw3.out.trans (hb4.mono (by have := hO.out; omega)))
   have HBD4 := Hd (fun (v0 v1 v2 v3 : Value) => (((hw4.out.setCell (p := ⟨b0, 0, none⟩) hO.out.1 v0).setCell (p := ⟨b0, 1, none⟩) hO.out.1 v1).setCell (p := ⟨b0, 2, none⟩) hO.out.1 v2).setCell (p := ⟨b0, 3, none⟩) hO.out.1 v3)
   have hz4' := Hd hz4
   have hq4 := Hd (hq3'.out.below hb4 (by have := hO.out; omega))
   have hrow4 := Hd (hrow3.out.below hb4 (by have := hO.out; omega))
   clear CLn x0 x1 hl3 y0 y1 y2 y3 p0 p1 p2 p3 hlz hz3' HBD hq3' hrow3 hw3 hb4 hz4
   obtain ⟨o, er'⟩ := G
   cases o with
   | none =>
    obtain ⟨rfl, h0⟩ := hbad4 er' rfl
    have hrun1 := hrun2
    dsimp only at hrun1
    have hne : (er != 0) = true := by simpa using h0
    replace h0 := Hd h0
    clear hok4 hbad4
    go_wp2
    refine world_gen (fun W => Blk W b0 40 #[.slice none 0 0, .slice none 0 0, .int .i64 0, .slice none 0 0] /\ Below w.heap.size w W) ⟨bS (bS (bS (bS hz4'.out rfl) rfl) rfl) rfl, HBD4.out _ _ _ _⟩ ?_
    rintro W ⟨hzW, hbW⟩
    have e0 := hzW.cell 0; have e1 := hzW.cell 1; have e2 := hzW.cell 2; have e3 := hzW.cell 3
    refine bodyPost_ret (v := .tuple #[.agg #[.slice none 0 0, .slice none 0 0, .int .i64 0, .slice none 0 0], .int .i64 (m : Int), .int .i64 er]) (by simp [results, Tryz.results19, go_sem, e0, e1, e2, e3]) rfl ?_
    exact retCr_bad hrun1.out.symm hbW
   | some qc =>
    obtain ⟨q, c'⟩ := qc
    obtain ⟨rfl, hst4⟩ := hok4 q c' er' rfl
    have hp4 := Hd (hpt2.out q c' er' rfl)
    have hst4' := Hd hst4
    have hrun1 := Hd hrun2.out
    clear hok4 hbad4 hst4 hrun2 hpt2 q0 q1 q2 q3 r0 r1 r2 r3 hlz4
    go_wp2
    go_roundg (gk - 1)
    case rel => exact ⟨m, q, c', by have := hk.out; have := hm'.out; show _ /\ _; omega, by go_num, (by rw [<- hm'.out]; exact hq4.out), hz4'.out, hrow4.out, hst4'.out, hrun1.out, .inr hp4.out, hw4.out⟩
    case measure => have := hk.out; omega
theorem take_line {t r : List UInt8} (ht : oneL t) {k : Nat} (hk : k < (t ++ 10 :: r).length) : (oneL ((t ++ 10 :: r).take k)) \/ ∃ j, j < r.length /\ (t ++ 10 :: r).take k = t ++ 10 :: r.take j := by
 rcases Nat.lt_or_ge t.length k with h | h
 ·
  refine .inr ⟨k - t.length - 1, ?_, ?_⟩
  · rw [List.length_append, List.length_cons] at hk; omega
  ·
   rw [List.take_append, List.take_of_length_le (by omega), show k - t.length = (k - t.length - 1) + 1 by omega, List.take_succ_cons]
   simp
 ·
  refine .inl fun c hc => ht c ?_
  rw [List.take_append_of_le_length h] at hc
  exact List.mem_of_mem_take hc
theorem add_swap1 (n m : Nat) : n + 1 + m = n + (m + 1) := by omega
theorem count_one {t : List UInt8} (h : oneL t) : t.count 10 = 0 := List.count_eq_zero.2 fun hc => h 10 hc rfl
theorem count_line {t r : List UInt8} (h : oneL t) : (t ++ 10 :: r).count 10 = r.count 10 + 1 := by
 rw [List.count_append, count_one h, List.count_cons_self]; omega
theorem oneL_lnC {t : List UInt8} (h : oneL t) : oneL (lnCQ t) := oneL.app (by decide : ∀ d ∈ wCof, d ≠ 10) (h.cons (by decide))
theorem oneL_lnF {t : List UInt8} (x : Int) (h : oneL t) : oneL (lnFQ x t) := oneL.app (by decide : ∀ d ∈ wFactor, d ≠ 10) (((oneL_text _).app (h.cons (by decide))).cons (by decide))
theorem restQ_none {names : List ByteArray} {f n : Nat} {c : CrQ} {s : List UInt8} (h : oneL s) : restQ names (f + 1) n c s = (noQ, n + s.count 10, 10) := by
 rw [restQ, cutL_none 10 s h, count_one h]
 rfl
def bodyK (K : List (List UInt8 × List Tm)) : List UInt8 := (K.flatMap fun x => lnCQ x.1 ++ [10]) ++ (wEnd ++ [10])
def bodyFK (L : List (Int × List UInt8 × List Tm)) (K : List (List UInt8 × List Tm)) : List UInt8 := (L.flatMap fun x => lnFQ x.1 x.2.1 ++ [10]) ++ bodyK K
theorem bodyK_nil : bodyK [] = wEnd ++ 10 :: [] := rfl
theorem bodyK_cons (x : List UInt8 × List Tm) (K : List (List UInt8 × List Tm)) : bodyK (x :: K) = lnCQ x.1 ++ 10 :: bodyK K := by unfold bodyK; rw [List.flatMap_cons]; simp
theorem bodyFK_nil (K : List (List UInt8 × List Tm)) : bodyFK [] K = bodyK K := rfl
theorem bodyFK_cons (x : Int × List UInt8 × List Tm) (L : List (Int × List UInt8 × List Tm)) (K : List (List UInt8 × List Tm)) : bodyFK (x :: L) K = lnFQ x.1 x.2.1 ++ 10 :: bodyFK L K := by unfold bodyFK; rw [List.flatMap_cons]; simp
theorem restQ_cutC {names : List ByteArray} : ∀ (L : List (List UInt8 × List Tm)) (f n k : Nat) (c : CrQ), L.length < f -> (∀ x ∈ L, polC names x.1 = (some x.2, 0) /\ oneL x.1) -> k < (bodyK L).length ->
  restQ names f n c ((bodyK L).take k) = (noQ, n + ((bodyK L).take k).count 10, 10)
 | [], f + 1, n, k, c, _, _, hk => by
  rw [bodyK_nil] at hk ⊢
  rcases take_line (t := wEnd) (r := []) (by decide : ∀ d ∈ wEnd, d ≠ 10) hk with h | ⟨j, hj, _⟩
  · exact restQ_none h
  · exact absurd hj (Nat.not_lt_zero _)
 | x :: L, f + 1, n, k, c, hf, hL, hk => by
  obtain ⟨h1, h2⟩ := hL x (by simp)
  rw [bodyK_cons] at hk ⊢
  rcases take_line (oneL_lnC h2) hk with h | ⟨j, hj, e⟩
  · exact restQ_none h
  ·
   rw [e, restQ, cutL_at 10 _ _ (oneL_lnC h2)]
   dsimp only
   rw [if_neg (by unfold lnCQ; exact wEnd_other (by decide)), lineQ_cof h1]
   dsimp only
   rw [restQ_cutC L f (n + 1) j _ (by simp at hf; omega) (fun y hy => hL y (by simp [hy])) hj, count_line (oneL_lnC h2)]
   rw [add_swap1]
 | L, 0, _, _, _, hf, _, _ => by omega
theorem restQ_cutF {names : List ByteArray} : ∀ (L : List (Int × List UInt8 × List Tm)) (K : List (List UInt8 × List Tm)) (f n k : Nat) (c : CrQ), L.length + K.length < f -> c.C = [] -> (∀ x ∈ L, (0 <= x.1 /\ x.1 <= 64) /\ polC names x.2.1 = (some x.2.2, 0) /\ oneL x.2.1 /\ x.2.2 ≠ []) -> (∀ x ∈ K, polC names x.1 = (some x.2, 0) /\ oneL x.1) -> k < (bodyFK L K).length ->
  restQ names f n c ((bodyFK L K).take k) = (noQ, n + ((bodyFK L K).take k).count 10, 10)
 | [], K, f, n, k, c, hf, hc, _, hK, hk => by
  rw [bodyFK_nil] at hk ⊢
  exact restQ_cutC K f n k c (by simp at hf; omega) hK hk
 | x :: L, K, f + 1, n, k, c, hf, hc, hL, hK, hk => by
  obtain ⟨h0, h1, h2, h3⟩ := hL x (by simp)
  rw [bodyFK_cons] at hk ⊢
  rcases take_line (oneL_lnF x.1 h2) hk with h | ⟨j, hj, e⟩
  · exact restQ_none h
  ·
   rw [e, restQ, cutL_at 10 _ _ (oneL_lnF x.1 h2)]
   dsimp only
   rw [if_neg (by unfold lnFQ; exact wEnd_other (by decide)), lineQ_fac h0 hc h3 h1]
   dsimp only
   rw [restQ_cutF L K f (n + 1) j { c with F := c.F ++ [x.2.2], P := c.P ++ [x.1] } (by simp at hf; omega) hc (fun y hy => hL y (by simp [hy])) hK hj, count_line (oneL_lnF x.1 h2)]
   rw [add_swap1]
 | L, K, 0, _, _, _, hf, _, _, _, _ => by omega
theorem restQ_fuel {names : List ByteArray} : ∀ (f f' n : Nat) (c : CrQ) (s : List UInt8), s.length < f -> s.length < f' -> restQ names f n c s = restQ names f' n c s
 | f + 1, f' + 1, n, c, s, h, h' => by
  rw [restQ, restQ]
  split
  · rfl
  ·
   next t r hcut =>
   obtain ⟨g1, _⟩ := cutL_some 10 s t r hcut
   split
   · rfl
   ·
    split
    · exact restQ_fuel f f' _ _ _ (by rw [g1] at h; simp at h; omega) (by rw [g1] at h'; simp at h'; omega)
    · rfl
 | 0, _, _, _, _, h, _ => by omega
 | _, 0, _, _, _, _, h => by omega
theorem readQ_cut {names : List ByteArray} {n : Int} (hn : 1 <= n /\ n <= 64) {L : List (Int × List UInt8 × List Tm)} {K : List (List UInt8 × List Tm)} (hL : ∀ x ∈ L, (0 <= x.1 /\ x.1 <= 64) /\ polC names x.2.1 = (some x.2.2, 0) /\ oneL x.2.1 /\ x.2.2 ≠ []) (hK : ∀ x ∈ K, polC names x.1 = (some x.2, 0) /\ oneL x.1) {s : List UInt8} {k : Nat}
  (hs : s = wPower ++ 32 :: (textN n.toNat ++ 10 :: bodyFK L K)) (hk : k < s.length) :
  readQ names (s.take k) = (noQ, 1 + (s.take k).count 10, 10) := by
 have e : s = (wPower ++ 32 :: textN n.toNat) ++ 10 :: bodyFK L K := by rw [hs]; simp
 have h0 : oneL (wPower ++ 32 :: textN n.toNat) := oneL.app (by decide : ∀ d ∈ wPower, d ≠ 10) ((oneL_text _).cons (by decide))
 rw [e] at hk ⊢
 rcases take_line h0 hk with h | ⟨j, hj, e2⟩
 ·
  unfold readQ
  rw [cutL_none 10 _ h, count_one h]
 ·
  rw [e2]
  unfold readQ
  rw [cutL_at 10 _ _ h0]
  dsimp only
  have h1 : firstQ (wPower ++ 32 :: textN n.toNat) = some ⟨[], [], n, []⟩ := by
   unfold firstQ
   rw [cutL_at 32 wPower _ (by decide)]
   dsimp only
   rw [if_pos rfl, numC_text (by omega) (by omega)]
   show some (CrQ.mk [] [] ((n.toNat : Nat) : Int) []) = _
   rw [Int.toNat_of_nonneg (by omega)]
  rw [h1]
  dsimp only
  rw [restQ_fuel ((bodyFK L K).take j).length.succ (L.length + K.length + 1 + (bodyFK L K).length) 2 ⟨[], [], n, []⟩ _ (by rw [Nat.succ_eq_add_one]; omega) (by rw [List.length_take]; omega)]
  rw [restQ_cutF L K _ 2 j ⟨[], [], n, []⟩ (by omega) rfl hL hK hj, count_line h0]
  rw [show (2 : Nat) = 1 + 1 from rfl, add_swap1]
theorem readQ_ends {names : List ByteArray} {F C : List (List Trm)} {P : List Int} {n : Int} {b : Bool} (h : (textC names F C P n b).2 = 0) (hn : 1 <= n /\ n <= 64) (hP : P.length = F.length) (hx : ∀ x ∈ P, 0 <= x /\ x <= 64) (h0 : ∀ p ∈ F, p ≠ [])
  (hF : ∀ p ∈ F, p.length <= 4000 /\ ∀ t ∈ p, shortQ (absQ t.coef.q)) (hC : ∀ p ∈ C, p.length <= 4000 /\ ∀ t ∈ p, shortQ (absQ t.coef.q)) :
  0 < (textC names F C P n b).1.data.toList.length /\ ∀ k, k < (textC names F C P n b).1.data.toList.length -> readQ names ((textC names F C P n b).1.data.toList.take k) = (noQ, 1 + ((textC names F C P n b).1.data.toList.take k).count 10, 10) := by
 unfold textC at h ⊢
 split at h
 ·
  next hb =>
  rw [if_pos hb]
  split at h
  ·
   next h1 =>
   rw [if_pos h1]
   split at h
   ·
    next h2 =>
    rw [if_pos h2]
    dsimp only
    have gF : ∀ i, i < F.length -> F.getD i [] ∈ F := fun i hi => by rw [List.getD_eq_getElem?_getD, List.getElem?_eq_getElem hi]; exact List.getElem_mem hi
    have gC : ∀ i, i < C.length -> C.getD i [] ∈ C := fun i hi => by rw [List.getD_eq_getElem?_getD, List.getElem?_eq_getElem hi]; exact List.getElem_mem hi
    have gP : ∀ i, i < F.length -> P.getD i 0 ∈ P := fun i hi => by rw [List.getD_eq_getElem?_getD, List.getElem?_eq_getElem (by omega)]; exact List.getElem_mem (by omega)
    refine ⟨by rw [text_list, List.length_append, List.length_cons]; omega, fun k hk => ?_⟩
    refine readQ_cut (L := facQ names F P) (K := cofQ names C) hn (fun x hx' => ?_) (fun x hx' => ?_) (text_list names F C P n) hk
    ·
     obtain ⟨i, hi, rfl⟩ := List.mem_map.1 hx'
     have hi' := List.mem_range.1 hi
     have hm := gF i hi'
     exact ⟨hx _ (gP i hi'), polC_print (errL_zero h1 _ hm) (hF _ hm).1 (hF _ hm).2, oneL_print (errL_zero h1 _ hm) (hF _ hm).2, fun e => h0 _ hm (List.map_eq_nil_iff.1 e)⟩
    ·
     obtain ⟨i, hi, rfl⟩ := List.mem_map.1 hx'
     have hm := gC i (List.mem_range.1 hi)
     exact ⟨polC_print (errL_zero h2 _ hm) (hC _ hm).1 (hC _ hm).2, oneL_print (errL_zero h2 _ hm) (hC _ hm).2⟩
   · next h2 => exact (h2 h).elim
  · next h1 => exact (h1 h).elim
 · cases h
theorem textN_few {n : Nat} (h : (limbs n).length <= 6) : (textN n).length <= 1000 := by
 have h1 : n < 10 ^ 29 := ltl (lt_pow_limbs n) (Nat.le_trans (Nat.pow_le_pow_right (by decide) h) (by decide))
 unfold textN
 split
 · simp
 · exact Nat.le_trans (digs_len 29 n h1) (by decide)
theorem absQ_parts (q : Rat) : (absQ q).num.natAbs = q.num.natAbs /\ (absQ q).den = q.den := by
 unfold absQ
 split
 · exact ⟨by rw [show (-q).num = -q.num from rfl, Int.natAbs_neg], rfl⟩
 · exact ⟨rfl, rfl⟩
theorem short_right {r : Rt} (h : r.right = true) (h1 : r.num.length <= 6) (h2 : r.den.length <= 6) : shortQ (absQ r.q) := by
 obtain ⟨_, e1, e2⟩ := right_trip h
 obtain ⟨a1, a2⟩ := absQ_parts r.q
 unfold shortQ
 rw [a1, a2]
 exact ⟨textN_few (by rw [e1]; exact h1), textN_few (by rw [e2]; exact h2)⟩
theorem short_poly {l : List Trm} (h : polyB l = true) (hl : ∀ t ∈ l, t.coef.num.length <= 6 /\ t.coef.den.length <= 6) : ∀ t ∈ l, shortQ (absQ t.coef.q) := fun t ht =>
 short_right (okT_fine (polyB_ok h t ht)).1 (hl t ht).1 (hl t ht).2
theorem linesL_line {t : List UInt8} (h : oneL t) (r : List UInt8) : linesL (t ++ 10 :: r) = t :: linesL r := linesL_some (cutL_at 10 t r h)
theorem linesL_count : ∀ s : List UInt8, (linesL s).length = s.count 10 + 1
 | [] => rfl
 | c :: r => by
  have ih := linesL_count r
  rw [linesL]
  by_cases h : c = 10
  · subst h; rw [if_pos rfl, List.length_cons, ih, List.count_cons_self]
  ·
   rw [if_neg h, List.count_cons_of_ne h]
   cases hq : linesL r with
   | nil => rw [hq] at ih; simp at ih
   | cons t q => rw [hq] at ih; simpa using ih
theorem linesL_pre : ∀ (u v : List UInt8) (j : Nat), j + 1 < (linesL u).length -> (linesL (u ++ v))[j]? = (linesL u)[j]?
 | [], v, j, h => by simp [linesL] at h
 | c :: u, v, j, h => by
  rw [List.cons_append, linesL, linesL]
  rw [linesL] at h
  by_cases hc : c = 10
  ·
   rw [if_pos hc] at h
   rw [if_pos hc, if_pos hc]
   cases j with
   | zero => rfl
   | succ j =>
    rw [List.getElem?_cons_succ, List.getElem?_cons_succ]
    exact linesL_pre u v j (by simpa using h)
  ·
   rw [if_neg hc] at h
   rw [if_neg hc, if_neg hc]
   have ih := linesL_pre u v j
   cases hu : linesL u with
   | nil => have := (linesL_len u).1; rw [hu] at this; simp at this
   | cons t q =>
    rw [hu] at h ih
    cases hv : linesL (u ++ v) with
    | nil => have := (linesL_len (u ++ v)).1; rw [hv] at this; simp at this
    | cons t' q' =>
     rw [hv] at ih
     have h2 := ih (by simpa using h)
     cases j with
     | zero => simp at h2; simp [h2]
     | succ j => simpa using h2
theorem lines_flat {α : Type} (g : α -> List UInt8) : ∀ (L : List α) (r : List UInt8), (∀ x ∈ L, oneL (g x)) -> linesL ((L.flatMap fun x => g x ++ [10]) ++ r) = L.map g ++ linesL r
 | [], r, _ => rfl
 | x :: L, r, h => by
  rw [List.flatMap_cons, show (g x ++ [10] ++ L.flatMap fun x => g x ++ [10]) ++ r = g x ++ 10 :: ((L.flatMap fun x => g x ++ [10]) ++ r) by simp, linesL_line (h x (by simp)), lines_flat g L r fun y hy => h y (by simp [hy])]
  rfl
theorem wokL_cof {names : List ByteArray} {t : List UInt8} (h : Wok names t) : WokL names (lnCQ t) := fun w r hc => by
 unfold lnCQ at hc
 rw [cutL_at 32 wCof t (by decide)] at hc
 injection hc with hc
 injection hc with h1 h2
 subst h1 h2
 exact ⟨fun _ => h, fun e => absurd e (by decide)⟩
theorem wokL_fac {names : List ByteArray} {t : List UInt8} {x : Int} (h : Wok names t) : WokL names (lnFQ x t) := fun w r hc => by
 unfold lnFQ at hc
 rw [cutL_at 32 wFactor _ (by decide)] at hc
 injection hc with hc
 injection hc with h1 h2
 subst h1 h2
 refine ⟨fun e => absurd e (by decide), fun _ d y hd => ?_⟩
 rw [cutL_at 32 (textN x.toNat) t fun c hc => (noSp_text _ c hc).1] at hd
 injection hd with hd
 injection hd with h1 h2
 subst h1 h2
 exact h
theorem wokL_first {names : List ByteArray} {t : List UInt8} : WokL names (wPower ++ 32 :: t) := fun w r hc => by
 rw [cutL_at 32 wPower t (by decide)] at hc
 injection hc with hc
 injection hc with h1 h2
 subst h1 h2
 exact ⟨fun e => absurd e (by decide), fun e => absurd e (by decide)⟩
theorem wokL_none {names : List ByteArray} {t : List UInt8} (h : cutL 32 t = none) : WokL names t := fun w r hc => by rw [h] at hc; cases hc
theorem fit_wok {l : List Trm} {names : List ByteArray} (hl : l.length <= 12) (hq : ∀ t ∈ l, t.coef.num.length <= 6 /\ t.coef.den.length <= 6) (hz : (printP l names).2 = 0) : Wok names (printP l names).1.data.toList := fun L r hL => by
 obtain ⟨hp, hn, hb, ht⟩ := printP_good hz
 rw [ht] at hL
 by_cases h0 : l.length = 0
 ·
  rw [if_pos h0, reaG_zero] at hL
  injection hL with h1 h2
  subst h1
  unfold wtP
  have : qsz 0 <= 1 := qsz_of0
  simp only [List.map_cons, List.map_nil, List.sum_cons, List.sum_nil]
  omega
 ·
  have hsh : ∀ t ∈ l, shortQ (absQ t.coef.q) := fun t ht => short_right (okT_fine (polyB_ok hp t ht)).1 (hq t ht).1 (hq t ht).2
  rw [if_neg h0, reaG_text hn (fun e => h0 (by rw [e]; rfl)) (by omega) (fun t ht => ⟨(okT_fine (polyB_ok hp t ht)).2.1, bigB_no hb t ht, hsh t ht⟩)] at hL
  injection hL with h1 h2
  subst h1
  have key : ∀ q : List Trm, (∀ t ∈ q, t ∈ l) -> wtP (q.map trmQ) <= 7 * q.length := by
   intro q hqq
   induction q with
   | nil => simp [wtP]
   | cons t q ih =>
    have h2 := ih fun x hx => hqq x (by simp [hx])
    have ht := hqq t (by simp)
    have h3 := (right_trip (okT_fine (polyB_ok hp t ht)).1)
    have h4 := hq t ht
    have h5 : qsz t.coef.q <= 6 := qsz_le (by rw [h3.2.1]; exact h4.1) (by rw [h3.2.2]; exact h4.2)
    unfold wtP at h2 ⊢
    rw [List.map_cons, List.map_cons, List.sum_cons, List.length_cons]
    have e : qsz (trmQ t).1 = qsz t.coef.q := rfl
    omega
  have := key l fun t ht => ht
  omega
def ModP (p : List Trm) : Prop := p.length <= 12 /\ ∀ t ∈ p, t.coef.num.length <= 6 /\ t.coef.den.length <= 6
theorem modP_short {p : List Trm} {names : List ByteArray} (h : ModP p) (hz : (printP p names).2 = 0) : ∀ t ∈ p, shortQ (absQ t.coef.q) := fun t ht =>
 short_right (okT_fine (polyB_ok (printP_good hz).1 t ht)).1 (h.2 t ht).1 (h.2 t ht).2
theorem textC_lines {names : List ByteArray} {F C : List (List Trm)} {P : List Int} {n : Int} {b : Bool} (h : (textC names F C P n b).2 = 0) (hF : ∀ p ∈ F, ModP p) (hC : ∀ p ∈ C, ModP p) :
  (∀ t ∈ linesL (textC names F C P n b).1.data.toList, WokL names t) /\ (linesL (textC names F C P n b).1.data.toList).length = F.length + C.length + 3 := by
 unfold textC at h ⊢
 split at h
 ·
  next hb =>
  rw [if_pos hb]
  split at h
  ·
   next h1 =>
   rw [if_pos h1]
   split at h
   ·
    next h2 =>
    rw [if_pos h2]
    dsimp only
    have gF : ∀ i, i < F.length -> F.getD i [] ∈ F := fun i hi => by rw [List.getD_eq_getElem?_getD, List.getElem?_eq_getElem hi]; exact List.getElem_mem hi
    have gC : ∀ i, i < C.length -> C.getD i [] ∈ C := fun i hi => by rw [List.getD_eq_getElem?_getD, List.getElem?_eq_getElem hi]; exact List.getElem_mem hi
    have oF : ∀ x ∈ facQ names F P, oneL x.2.1 /\ Wok names x.2.1 := fun x hx => by
     obtain ⟨i, hi, rfl⟩ := List.mem_map.1 hx
     have hm := gF i (List.mem_range.1 hi)
     exact ⟨oneL_print (errL_zero h1 _ hm) (modP_short (hF _ hm) (errL_zero h1 _ hm)), fit_wok (hF _ hm).1 (hF _ hm).2 (errL_zero h1 _ hm)⟩
    have oC : ∀ x ∈ cofQ names C, oneL x.1 /\ Wok names x.1 := fun x hx => by
     obtain ⟨i, hi, rfl⟩ := List.mem_map.1 hx
     have hm := gC i (List.mem_range.1 hi)
     exact ⟨oneL_print (errL_zero h2 _ hm) (modP_short (hC _ hm) (errL_zero h2 _ hm)), fit_wok (hC _ hm).1 (hC _ hm).2 (errL_zero h2 _ hm)⟩
    have h0 : oneL (wPower ++ 32 :: textN n.toNat) := oneL.app (by decide : ∀ d ∈ wPower, d ≠ 10) ((oneL_text _).cons (by decide))
    have hlns : linesL (catL (lnsC names F C P n C.length) ++ endB).data.toList = (wPower ++ 32 :: textN n.toNat) :: ((facQ names F P).map (fun x => lnFQ x.1 x.2.1) ++ ((cofQ names C).map (fun x => lnCQ x.1) ++ [wEnd, []])) := by
     rw [text_list, show ∀ z, wPower ++ 32 :: (textN n.toNat ++ 10 :: z) = (wPower ++ 32 :: textN n.toNat) ++ 10 :: z from fun z => by simp, linesL_line h0,
      lines_flat (fun x : Int × List UInt8 × List Tm => lnFQ x.1 x.2.1) _ _ fun x hx => oneL_lnF _ (oF x hx).1, lines_flat (fun x : List UInt8 × List Tm => lnCQ x.1) _ _ fun x hx => oneL_lnC (oC x hx).1,
      show wEnd ++ [10] = wEnd ++ 10 :: [] from rfl, linesL_line (by decide : ∀ d ∈ wEnd, d ≠ 10)]
     rfl
    rw [hlns]
    constructor
    ·
     intro t ht
     rcases List.mem_cons.1 ht with e | ht
     · rw [e]; exact wokL_first
     ·
      rcases List.mem_append.1 ht with ht | ht
      ·
       obtain ⟨x, hx, rfl⟩ := List.mem_map.1 ht
       exact wokL_fac (oF x hx).2
      ·
       rcases List.mem_append.1 ht with ht | ht
       ·
        obtain ⟨x, hx, rfl⟩ := List.mem_map.1 ht
        exact wokL_cof (oC x hx).2
       ·
        rcases List.mem_cons.1 ht with e | ht
        · rw [e]; exact wokL_none rfl
        · rw [List.mem_singleton] at ht; rw [ht]; exact wokL_none rfl
    · simp [facQ, cofQ]; omega
   · next h2 => exact (h2 h).elim
  · next h1 => exact (h1 h).elim
 · cases h
theorem fitsPolys_any (l : List (List Trm)) (a : Option Addr) (c : Nat) (w : World) (h : PolysR w a c l) :
  Calls Tryz.prog 48 #[.slice a l.length c] w fun e w' => e = .returned (.bool (fitL l)) /\ Below w.heap.size w w' := by
 have hlen := h.len
 obtain ⟨res, hres⟩ : ∃ x, fitL l = x := ⟨_, rfl⟩
 rw [hres]
 have HRES := Hd hres
 have HP := Hd h
 clear hres h
 go_enter Tryz.func48, Tryz.ntmps48
 go_wp2
 go_loopg [9] l.length (fun g q wr => ∃ k : Nat, k + g = l.length /\ q = .int .i64 k /\ Below w.heap.size w wr /\ (l.take k).all fitP = true)
 case atStart => exact ⟨0, by omega, rfl, Below.refl _ _, rfl⟩
 case round =>
  obtain ⟨k, hkg, rfl, hwr, hall⟩ := hrel
  have HKG := Hd hkg
  have HA := Hd hall
  clear hkg hall
  obtain ⟨gko, rfl⟩ : ∃ x : Nat, x = gk := ⟨_, rfl⟩
  obtain ⟨wo, rfl⟩ : ∃ wo : World, wo = wr := ⟨_, rfl⟩
  by_cases hlt : k < l.length
  ·
   obtain ⟨p, hp⟩ := get_of_lt hlt
   obtain ⟨b, off, hao, pa, pc, hc0, hPP⟩ := (HP.out.ext (xbw hwr)).2.2 k p hp
   subst hao
   have HPK := Hd hp
   have HPP := Hd hPP
   have hpl := hPP.len
   have hbl : b < wo.heap.size := World.block_lt_of_cell? wo _ hc0
   simp only [Nat.mul_one] at hc0
   clear hp hPP
   go_wp2
   go_loopg [15] p.length (fun g q wr => ∃ j : Nat, j + g = p.length /\ q = .int .i64 j /\ Below wo.heap.size wo wr /\ (p.take j).all fitT = true)
   case atStart => exact ⟨0, by omega, rfl, Below.refl _ _, rfl⟩
   case round =>
    obtain ⟨j, hjg, rfl, hwj, hall⟩ := hrel
    have HJG := Hd hjg
    have HJ := Hd hall
    clear hjg hall
    by_cases hjl : j < p.length
    ·
     obtain ⟨t, ht⟩ := get_of_lt hjl
     obtain ⟨b2, off2, hao2, q, hC, _⟩ := (HPP.out.ext (xbw hwj)).2.2 j t ht
     subst hao2
     obtain ⟨c0, c1, c2, c3⟩ := hC
     obtain ⟨aa, ac, na, nc, da, dc⟩ := q
     obtain ⟨⟨neg, num, den⟩, mono⟩ := t
     have HT := Hd ht
     dsimp only at c0 c1 c2 c3
     have hbl2 : b2 < wr.heap.size := World.block_lt_of_cell? wr _ c0
     have hw2 := bth hwr (hwj.alloc hwj.size (.cells #[.bool neg, .slice na num.length nc, .slice da den.length dc, .slice aa mono.length ac] 57))
     have hwj2 := hwj.alloc hwj.size (.cells #[.bool neg, .slice na num.length nc, .slice da den.length dc, .slice aa mono.length ac] 57)
     clear ht
     by_cases hm6 : 6 < mono.length
     ·
      obtain rfl : res = false := by rw [<- HRES.out]; exact fitL_term HPK.out HT.out (by unfold fitT; dsimp only; rw [decide_eq_false (by omega)]; simp)
      go_wp2
      go_ret
      exact ⟨rfl, hw2⟩
     ·
      by_cases hn4 : 4 < num.length
      ·
       obtain rfl : res = false := by rw [<- HRES.out]; exact fitL_term HPK.out HT.out (by unfold fitT; dsimp only; rw [decide_eq_false (show ¬ num.length <= 4 by omega)]; simp)
       go_wp2
       go_ret
       exact ⟨rfl, hw2⟩
      ·
       by_cases hd4 : 4 < den.length
       ·
        obtain rfl : res = false := by rw [<- HRES.out]; exact fitL_term HPK.out HT.out (by unfold fitT; dsimp only; rw [decide_eq_false (show ¬ den.length <= 4 by omega)]; simp)
        go_wp2
        go_ret
        exact ⟨rfl, hw2⟩
       ·
        have hft : fitT ⟨⟨neg, num, den⟩, mono⟩ = true := by unfold fitT; dsimp only; simp only [Bool.and_eq_true, decide_eq_true_eq]; omega
        have HF := Hd hft
        clear hft
        go_wp2
        go_roundg (gk - 1)
        case rel => exact ⟨j + 1, by have := HJG.out; omega, by go_num, hwj2, all_take HJ.out HT.out HF.out⟩
        case measure => have := HJG.out; omega
    ·
     have HJ2 := HJ.out
     rw [show j = p.length by have := HJG.out; omega] at HJ2
     by_cases h8 : 8 < p.length
     ·
      obtain rfl : res = false := by rw [<- HRES.out]; exact fitL_long HPK.out h8
      clear HJ2
      go_wp2
      go_ret
      exact ⟨rfl, bth hwr hwj⟩
     ·
      have HF := Hd (fitP_end HJ2 (by omega))
      have hwn := bth hwr hwj
      clear HJ2
      go_wp2
      go_roundg (gko - 1)
      case rel => exact ⟨k + 1, by have := HKG.out; omega, by go_num, hwn, all_take HA.out HPK.out HF.out⟩
      case measure => have := HKG.out; omega
  ·
   have HA2 := HA.out
   rw [show k = l.length by have := HKG.out; omega] at HA2
   have hr := HRES.out
   rw [fitL_end HA2] at hr
   clear HA2
   by_cases h6 : l.length <= 6
   ·
    obtain rfl : res = true := by rw [<- hr, decide_eq_true h6]
    clear hr
    go_wp2
    go_ret
    exact ⟨ret_bool (decide_eq_true (by omega)), hwr⟩
   ·
    obtain rfl : res = false := by rw [<- hr, decide_eq_false h6]
    clear hr
    go_wp2
    go_ret
    exact ⟨ret_bool (decide_eq_false (by omega)), hwr⟩
theorem fits30_any (F C : List (List Trm)) (P : List Int) (n : Int) (fa wa ca : Option Addr) (fc wc cc : Nat) (w : World) (h1 : PolysR w fa fc F) (h2 : IntsR w wa wc P) (h3 : PolysR w ca cc C) :
  Calls Tryz.prog 22 #[.agg #[.slice fa F.length fc, .slice wa P.length wc, .int .i64 n, .slice ca C.length cc]] w fun e w' => e = .returned (.bool (fitL F && fitL C && decide (P.length <= 6))) /\ Below w.heap.size w w' := by
 have C1 := fun W (hW : Below w.heap.size w W) => fitsPolys_any F fa fc W (h1.ext (xbw hW))
 have C2 := fun W (hW : Below w.heap.size w W) => fitsPolys_any C ca cc W (h3.ext (xbw hW))
 have hl := h2.len
 revert C1 C2
 generalize fitL F = b1
 generalize fitL C = b2
 intro C1 C2
 replace C1 := Hd C1; replace C2 := Hd C2
 have hx := Blk.new w 40 #[.slice fa F.length fc, .slice wa P.length wc, .int .i64 n, .slice ca C.length cc]
 have hw0 : Below w.heap.size w (w.alloc (.cells #[.slice fa F.length fc, .slice wa P.length wc, .int .i64 n, .slice ca C.length cc] 40)) := brf.alloc (nlr _) _
 clear h1 h2 h3
 cases b1
 ·
  go_enter Tryz.func22, Tryz.ntmps22
  go_wp2_with fail
  revert hx hw0
  generalize w.alloc (.cells #[.slice fa F.length fc, .slice wa P.length wc, .int .i64 n, .slice ca C.length cc] 40) = w0
  intro hx hw0
  have z0 := hx.cell 0
  go_wp2_with fail
  refine (C1.out _ hw0).mono ?_
  rintro e w1 ⟨rfl, hb1⟩
  have hw1 := bth hw0 hb1
  go_wp2
  go_ret
  exact ⟨rfl, hw1⟩
 ·
  cases b2
  ·
   go_enter Tryz.func22, Tryz.ntmps22
   go_wp2_with fail
   revert hx hw0
   generalize w.alloc (.cells #[.slice fa F.length fc, .slice wa P.length wc, .int .i64 n, .slice ca C.length cc] 40) = w0
   intro hx hw0
   have z0 := hx.cell 0
   go_wp2_with fail
   refine (C1.out _ hw0).mono ?_
   rintro e w1 ⟨rfl, hb1⟩
   have hw1 := bth hw0 hb1
   have z3 := (hx.below' hb1).cell 3
   go_wp2_with fail
   refine (C2.out _ hw1).mono ?_
   rintro e w2 ⟨rfl, hb2⟩
   have hw2 := bth hw1 hb2
   go_wp2
   go_ret
   exact ⟨rfl, hw2⟩
  ·
   have hd : decide ((P.length : Int) <= 6) = decide (P.length <= 6) := by rw [decide_eq_decide]; omega
   obtain ⟨b, hb⟩ : ∃ b, decide (P.length <= 6) = b := ⟨_, rfl⟩
   rw [hb] at hd ⊢
   have HD := Hd hd
   clear hb hd
   ·
    skip
    go_enter Tryz.func22, Tryz.ntmps22
    go_wp2_with fail
    revert hx hw0
    generalize w.alloc (.cells #[.slice fa F.length fc, .slice wa P.length wc, .int .i64 n, .slice ca C.length cc] 40) = w0
    intro hx hw0
    have z0 := hx.cell 0
    go_wp2_with fail
    refine (C1.out _ hw0).mono ?_
    rintro e w1 ⟨rfl, hb1⟩
    have hw1 := bth hw0 hb1
    have hx1 := hx.below' hb1
    have z3 := hx1.cell 3
    go_wp2_with fail
    refine (C2.out _ hw1).mono ?_
    rintro e w2 ⟨rfl, hb2⟩
    have hw2 := bth hw1 hb2
    have z1 := (hx1.below' hb2).cell 1
    go_wp2
    go_ret
    exact ⟨ret_bool (by rw [HD.out]; rfl), hw2⟩
theorem crtP_any (F C : List (List Trm)) (P : List Int) (n : Int) (fa wa ca : Option Addr) (fc wc cc : Nat) (w : World) (h1 : PolysR w fa fc F) (h2 : IntsR w wa wc P) (h3 : PolysR w ca cc C) (hn : InInt n)
  (hq1 : ∀ p ∈ F, ∀ t ∈ p, t.coef.num.length <= 2000000 /\ t.coef.den.length <= 2000000) (hq2 : ∀ p ∈ C, ∀ t ∈ p, t.coef.num.length <= 2000000 /\ t.coef.den.length <= 2000000) :
  Calls Tryz.prog 24 #[.agg #[.slice fa F.length fc, .slice wa P.length wc, .int .i64 n, .slice ca C.length cc]] w fun e w' => e = .returned (.bool (crtB ⟨F, P, n, C⟩)) /\ Below w.heap.size w w' := by
 have hl1 := h1.len; have hl2 := h2.len; have hl3 := h3.len
 obtain ⟨hn1, hn2⟩ := hn
 obtain ⟨res, hres⟩ : ∃ x, crtB ⟨F, P, n, C⟩ = x := ⟨_, rfl⟩
 rw [hres]
 have HRES := Hd hres
 have H1 := Hd h1; have H2 := Hd h2; have H3 := Hd h3; have Q1 := Hd hq1; have Q2 := Hd hq2
 have hx := Blk.new w 40 #[.slice fa F.length fc, .slice wa P.length wc, .int .i64 n, .slice ca C.length cc]
 have hw0 : Below w.heap.size w (w.alloc (.cells #[.slice fa F.length fc, .slice wa P.length wc, .int .i64 n, .slice ca C.length cc] 40)) := brf.alloc (nlr _) _
 clear hres h1 h2 h3 hq1 hq2
 by_cases hpf : P.length = F.length
 case neg =>
  obtain rfl : res = false := by rw [<- HRES.out]; exact crtB_len hpf
  have hne : ((P.length : Int) != (F.length : Int)) = true := by simp; omega
  clear hpf
  go_enter Tryz.func24, Tryz.ntmps24
  go_wp2
  go_ret
  exact ⟨rfl, hw0⟩
 have hne : ((P.length : Int) != (F.length : Int)) = false := by simp; omega
 by_cases hp : 1 <= n /\ n <= 64
 case neg =>
  obtain rfl : res = false := by rw [<- HRES.out]; exact crtB_pow hp
  clear hpf
  by_cases hlo : n < 1
  ·
   clear hp
   go_enter Tryz.func24, Tryz.ntmps24
   go_wp2
   go_ret
   exact ⟨rfl, hw0⟩
  ·
   have hhi : 64 < n := by omega
   clear hp
   go_enter Tryz.func24, Tryz.ntmps24
   go_wp2
   go_ret
   exact ⟨rfl, hw0⟩
 have HPF := Hd hpf
 obtain ⟨hp1, hp2⟩ := hp
 clear hpf
 go_enter Tryz.func24, Tryz.ntmps24
 go_wp2
 revert hx hw0
 generalize w.alloc (.cells #[.slice fa F.length fc, .slice wa P.length wc, .int .i64 n, .slice ca C.length cc] 40) = w0
 intro hx hw0
 clear hne
 go_loopg [27] F.length (fun g q wr => ∃ k : Nat, k + g = F.length /\ q = .int .i64 k /\ Below w.heap.size w wr /\ Blk wr w.heap.size 40 #[.slice fa F.length fc, .slice wa P.length wc, .int .i64 n, .slice ca C.length cc] /\ ∀ j, j < k -> facB ⟨F, P, n, C⟩ j = true)
 case atStart => exact ⟨0, by omega, rfl, hw0, hx, fun j hj => by omega⟩
 case round =>
  clear hx hw0
  obtain ⟨k, hkg, rfl, hwr, hx, hall⟩ := hrel
  have HKG := Hd hkg
  have HA := Hd hall
  have hxl := hx.lt
  have z0 := hx.cell 0; have z1 := hx.cell 1; have z2 := hx.cell 2; have z3 := hx.cell 3
  have HX := Hd hx
  clear hkg hall hx
  by_cases hlt : k < F.length
  ·
   obtain ⟨x, hxx⟩ := get_of_lt (xs := P) (k := k) (by rw [HPF.out]; exact hlt)
   obtain ⟨f, hf⟩ := get_of_lt hlt
   have hkp : k < P.length := lt_of_get hxx
   obtain ⟨b, off, hao, hc, hx1, hx2⟩ := ints_cell (H2.out.ext (xbw hwr)) hxx
   obtain ⟨b', off', hao', pa, pc, hc', hPR⟩ := (H1.out.ext (xbw hwr)).2.2 k f hf
   subst hao hao'
   have hfl := hPR.len
   have hfac := facB_of (c := ⟨F, P, n, C⟩) hxx hf
   have CP := polyP_any f pa pc wr hPR (Q1.out f (List.mem_of_getElem? hf))
   have HF := Hd hfac
   simp only [Nat.mul_one] at hc'
   have hbl : b < wr.heap.size := World.block_lt_of_cell? wr _ hc
   have hbl' : b' < wr.heap.size := World.block_lt_of_cell? wr _ hc'
   clear hxx hf hPR hfac
   by_cases hxr : 0 <= x /\ x <= 64
   case neg =>
    obtain rfl : res = false := by rw [<- HRES.out]; exact crtB_fac hlt (by rw [HF.out, decide_eq_false hxr]; rfl)
    clear CP
    by_cases hx0 : x < 0
    ·
     clear hxr
     go_wp2
     go_ret
     exact ⟨rfl, hwr⟩
    ·
     have hx64 : 64 < x := by omega
     clear hxr
     go_wp2
     go_ret
     exact ⟨rfl, hwr⟩
   have HF2 := HF.out
   rw [decide_eq_true hxr] at HF2
   obtain ⟨hxr1, hxr2⟩ := hxr
   by_cases hf0 : f.length = 0
   ·
    obtain rfl : res = false := by rw [<- HRES.out]; exact crtB_fac hlt (by rw [HF2, decide_eq_true hf0]; rfl)
    have he0 : ((f.length : Int) == 0) = true := by simp [hf0]
    clear CP HF2 hf0
    go_wp2
    go_ret
    exact ⟨rfl, hwr⟩
   ·
    have he0 : ((f.length : Int) == 0) = false := by simp; exact fun e => hf0 (by simp [e])
    rw [decide_eq_false hf0] at HF2
    revert CP HF2
    generalize polyB f = pb
    intro CP HF2
    replace CP := Hd CP
    replace HF2 := Hd HF2
    clear hf0 HF
    cases pb
    ·
     obtain rfl : res = false := by rw [<- HRES.out]; exact crtB_fac hlt (by rw [HF2.out]; rfl)
     clear HF2
     go_wp2_with fail
     refine CP.out.mono ?_
     rintro e w2 ⟨rfl, hb2⟩
     have hw2 := bth hwr hb2
     go_wp2
     go_ret
     exact ⟨rfl, hw2⟩
    ·
     go_wp2_with fail
     refine CP.out.mono ?_
     rintro e w2 ⟨rfl, hb2⟩
     have hw2 := bth hwr hb2
     have hx2 := HX.out.below' hb2
     go_wp2
     go_roundg (gk - 1)
     case rel => exact ⟨k + 1, by have := HKG.out; omega, by go_num, hw2, hx2, all_succ HA.out (by rw [HF2.out]; rfl)⟩
     case measure => have := HKG.out; omega
  ·
   have hfin : ∀ j, j < F.length -> facB ⟨F, P, n, C⟩ j = true := fun j hj => HA.out j (by omega)
   have HFIN := Hd hfin
   obtain ⟨wo, rfl⟩ : ∃ wo : World, wo = wr := ⟨_, rfl⟩
   clear hfin HKG HA
   go_wp2
   go_loopg [60] C.length (fun g q wr => ∃ k : Nat, k + g = C.length /\ q = .int .i64 k /\ Below w.heap.size w wr /\ (C.take k).all polyB = true)
   case atStart => exact ⟨0, by omega, rfl, hwr, rfl⟩
   case round =>
    clear HX z0 z1 z2 z3 hxl hwr
    obtain ⟨k2, hkg, rfl, hwr, hall⟩ := hrel
    have HKG := Hd hkg
    have HA := Hd hall
    clear hkg hall
    by_cases hlt2 : k2 < C.length
    ·
     obtain ⟨f, hf⟩ := get_of_lt hlt2
     obtain ⟨b', off', hao', pa, pc, hc', hPR⟩ := (H3.out.ext (xbw hwr)).2.2 k2 f hf
     subst hao'
     have hfl := hPR.len
     have CP := polyP_any f pa pc wr hPR (Q2.out f (List.mem_of_getElem? hf))
     have HF := Hd hf
     simp only [Nat.mul_one] at hc'
     have hbl' : b' < wr.heap.size := World.block_lt_of_cell? wr _ hc'
     clear hf hPR
     cases hpb : polyB f
     ·
      rw [hpb] at CP
      obtain rfl : res = false := by rw [<- HRES.out]; exact crtB_cof HF.out hpb
      replace CP := Hd CP
      clear hpb
      go_wp2_with fail
      refine CP.out.mono ?_
      rintro e w2 ⟨rfl, hb2⟩
      have hw2 := bth hwr hb2
      go_wp2
      go_ret
      exact ⟨rfl, hw2⟩
     ·
      rw [hpb] at CP
      replace CP := Hd CP
      have HPB := Hd hpb
      clear hpb
      go_wp2_with fail
      refine CP.out.mono ?_
      rintro e w2 ⟨rfl, hb2⟩
      have hw2 := bth hwr hb2
      go_wp2
      go_roundg (gk - 1)
      case rel => exact ⟨k2 + 1, by have := HKG.out; omega, by go_num, hw2, all_take HA.out HF.out HPB.out⟩
      case measure => have := HKG.out; omega
    ·
     have HA2 := HA.out
     rw [show k2 = C.length by have := HKG.out; omega] at HA2
     obtain rfl : res = true := by rw [<- HRES.out]; exact crtB_good HPF.out ⟨hp1, hp2⟩ HFIN.out HA2
     clear HA2
     go_wp2
     go_ret
     exact ⟨rfl, hwr⟩
theorem ba_assoc (a b c : ByteArray) : a ++ b ++ c = a ++ (b ++ c) := by apply ba_ext; simp [ByteArray.data_append]
end Go.Proofs.YtkjnkpkagcboeaaGreatDoor
