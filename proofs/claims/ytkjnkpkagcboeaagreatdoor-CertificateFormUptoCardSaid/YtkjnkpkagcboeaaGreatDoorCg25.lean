/- The law CertificateBack, walked; the sizes of texts. -/
import Derived.Test.YtkjnkpkagcboeaaGreatDoorCg24
import Derived.Test.YtkjnkpkagcboeaaGreatDoorCg15
import Derived.Test.YtkjnkpkagcboeaaGreatDoorCg21
import Derived.Test.YtkjnkpkagcboeaaGreatDoorCg12
import Derived.Test.YtkjnkpkagcboeaaGreatDoorCg10
import Derived.Test.YtkjnkpkagcboeaaGreatDoorCg23
import Derived.Test.YtkjnkpkagcboeaaGreatDoorCg8
import Derived.Test.YtkjnkpkagcboeaaGreatDoorCg1
import Derived.LoopTactic
import Derived.Deep.LoopGhost
import Derived.Test.YtkjnkpkagcboeaaGreatDoorCg22
import Derived.Test.YtkjnkpkagcboeaaGreatDoorCg5
import Derived.Test.YtkjnkpkagcboeaaGreatDoorCg14
set_option linter.all false
set_option maxRecDepth 100000
set_option maxHeartbeats 4000000
namespace Go.Proofs.YtkjnkpkagcboeaaGreatDoor
open Go.RowKit
def RetCr (R : CrQ × Nat × Int) (w : World) (e : Ending) (w' : World) : Prop := ∃ (fa wa ca : Option Addr) (fc wc cc : Nat), e = .returned (.tuple #[.agg #[.slice fa R.1.F.length fc, .slice wa R.1.P.length wc, .int .i64 R.1.n, .slice ca R.1.C.length cc], .int .i64 R.2.1, .int .i64 R.2.2]) /\ Below w.heap.size w w' /\
 PolysR w' fa fc (R.1.F.map (·.map trmOf)) /\ IntsR w' wa wc R.1.P /\ PolysR w' ca cc (R.1.C.map (·.map trmOf))
theorem retCr_bad {R : CrQ × Nat × Int} {n : Nat} {er : Int} {w w' : World} (hR : R = (noQ, n, er)) (hb : Below w.heap.size w w') : RetCr R w (.returned (.tuple #[.agg #[.slice none 0 0, .slice none 0 0, .int .i64 0, .slice none 0 0], .int .i64 n, .int .i64 er])) w' := by
 subst hR
 exact ⟨none, none, none, 0, 0, 0, rfl, hb, SlR.nil, SlR.nil, SlR.nil⟩
theorem linP_part {names : List ByteArray} {part : Nat} {c c' : CrQ} {t : List UInt8} {q : Nat} {x : Int} (h : linP names part c t = (some (q, c'), x)) : q = 3 \/ q = partQ c' := by
 unfold linP at h
 split at h
 ·
  split at h
  ·
   next c1 hf =>
   injection h with h _
   injection h with h
   injection h with h1 h2
   subst h1 h2
   right
   have h0 : c1.C = [] := by
    unfold firstQ at hf
    split at hf
    ·
     split at hf
     · obtain ⟨n, _, rfl⟩ := Option.map_eq_some_iff.1 hf; rfl
     · cases hf
    · cases hf
   unfold partQ
   rw [if_pos h0]
  · cases h
 ·
  split at h
  · cases h
  ·
   split at h
   ·
    injection h with h _
    injection h with h
    injection h with h1 _
    exact .inl h1.symm
   ·
    split at h
    ·
     injection h with h _
     injection h with h
     injection h with h1 h2
     right
     rw [<- h1, <- h2]
     rfl
    · cases h
theorem certRead_any (s : ByteArray) (names : List ByteArray) (na : Option Addr) (nc : Nat) (w : World) (hE : ∀ W, Below w.heap.size w W -> EnvC names na nc W) (hnz : ∀ x ∈ names, x.size <= 1048576) (hnl : names.length <= 1000) (hs : s.size < 4294967281)
  (hL : (linesL s.data.toList).length <= 16000000) (hW : ∀ k t, (linesL s.data.toList)[k]? = some t -> k + 1 < (linesL s.data.toList).length -> WokL names t) :
  Calls Tryz.prog 19 #[.string s, .slice na names.length nc] w (RetCr (readQ names s.data.toList) w) := by
 have CS := fun W (hW : Below w.heap.size w W) => split_any s ⟨#[10]⟩ W (hE W hW).2.1 hs (by decide)
 obtain ⟨hsp1, hsp2⟩ := split_lines s.data.toList
 rw [ofL_data] at hsp1 hsp2
 rw [<- runP_read]
 obtain ⟨L, hLL⟩ : ∃ L, linesL s.data.toList = L := ⟨_, rfl⟩
 have hL1 := (linesL_len s.data.toList).1
 have hszl : ∀ t ∈ L, t.length <= s.size := fun t ht => by rw [<- hLL] at ht; exact linesL_short _ t ht
 rw [hLL] at hsp1 hsp2 hL hW hL1 ⊢
 have e10 : (⟨#[10]⟩ : ByteArray) = ofL [10] := rfl
 rw [e10] at CS
 rw [hsp1, hsp2] at CS
 obtain ⟨R, hR⟩ : ∃ R, runP names 0 noQ 1 L = R := ⟨_, rfl⟩
 have hok := fun (c : CrQ) (e : R = (c, 0, 0)) => (readQ_form (names := names) (s := s.data.toList) (c := c) (k := 0) (by rw [<- runP_read, hLL, hR]; exact e)).2.1.2.2.1
 replace hok := Hd hok
 rw [hR]
 replace CS := Hd CS; replace hR := Hd hR; replace hW := Hd hW; replace hszl := Hd hszl
 have HE := Hd hE; have HNZ := Hd hnz
 rw [<- e10] at CS
 clear hE hnz hsp1 hsp2 hLL e10
 go_enter Tryz.func19, Tryz.ntmps19
 go_wp2_with fail
 refine calls_gen (fun W => Blk W w.heap.size 40 #[.slice none 0 0, .slice none 0 0, .int .i64 0, .slice none 0 0] /\ Below w.heap.size w W /\ W.heap.size = w.heap.size + 1) ⟨bN rfl, brf.alloc (nlr _) _, by simp⟩ ?_
 rintro w0 ⟨hz0, hw0, hs0⟩
 refine (CS.out w0 hw0).mono ?_
 rintro e w1 ⟨rfl, rfl⟩
 obtain ⟨b0, hb0⟩ : ∃ q, w.heap.size = q := ⟨_, rfl⟩
 rw [hb0] at hz0 hs0 ⊢
 rw [hs0]
 have hrow := Blk.new w0 9 ((L.map ofL).map Value.string).toArray
 rw [hs0] at hrow
 have hz1 := bA (o := .cells ((L.map ofL).map Value.string).toArray 9) hz0
 have hw1 := hw0.alloc hw0.size (.cells ((L.map ofL).map Value.string).toArray 9)
 obtain ⟨w1, hw1e⟩ : ∃ W, w0.alloc (.cells ((L.map ofL).map Value.string).toArray 9) = W := ⟨_, rfl⟩
 have hs1 : w1.heap.size = b0 + 1 + 1 := by rw [<- hw1e]; simp [hs0]
 rw [hw1e] at hrow hz1 hw1 ⊢
 obtain ⟨b1, hb1⟩ : ∃ q, b0 + 1 = q := ⟨_, rfl⟩
 rw [hb1] at hrow hs1 ⊢
 obtain ⟨b2, hb2⟩ : ∃ q, b1 + 1 = q := ⟨_, rfl⟩
 rw [hb2] at hs1
 have hb0' := Hd hb0; have hb1' := Hd hb1; have hb2' := Hd hb2; have hs1' := Hd hs1
 have hrow' := Hd hrow; have hz1' := Hd hz1; have hw1' := Hd hw1
 clear hb0 hb1 hb2 hs1 hrow hz1 hw1 hz0 hw0 hs0 hw1e CS
 go_wp2
 refine world_gen (fun W => Blk W w1.heap.size 83 #[.slice (some ⟨b1, 0, none⟩) L.length L.length, .int .i64 ((0 : Nat) : Int)] /\ Blk W (w1.heap.size + 1) 87 #[.slice na names.length nc, .slice none 0 0, .slice none 0 0, .int .i64 0, .slice none 0 0, .int .i64 0] /\ Blk W b0 40 #[.slice none 0 0, .slice none 0 0, .int .i64 0, .slice none 0 0] /\ Blk W b1 9 ((L.map ofL).map Value.string).toArray /\ Below w.heap.size w W) ⟨bA (bN rfl), bN (by simp), bA (bA hz1'.out), bA (bA hrow'.out), (hw1'.out.alloc hw1'.out.size _).alloc (by have := hw1'.out.size; simp; omega) _⟩ ?_
 rintro w2 ⟨hq, hg, hz, hrow, hw2⟩
 obtain ⟨b2, hb2⟩ : ∃ q, w1.heap.size = q := ⟨_, rfl⟩
 rw [hb2] at hq hg ⊢
 obtain ⟨g, hge⟩ : ∃ q, b2 + 1 = q := ⟨_, rfl⟩
 rw [hge] at hg ⊢
 have hO := Hd (show w.heap.size <= b0 /\ b0 < b1 /\ b1 < b2 /\ b2 < g from ⟨by have := hb0'.out; omega, by have := hb1'.out; omega, by have := hs1'.out; have := hb2'.out; omega, by omega⟩)
 clear hb2 hge hb0' hb1' hb2' hs1' hrow' hz1' hw1'
 go_loopg [10, 11, 12, 13] L.length (fun gk s10 _ _ _ wr => ∃ (k part : Nat) (c : CrQ), Hid (k + gk = L.length /\ 0 < gk) /\ s10 = .int .i64 ((k + 1 : Nat) : Int) /\ Hid (Blk wr b2 83 #[.slice (some ⟨b1, 0, none⟩) L.length L.length, .int .i64 (k : Int)]) /\ Hid (Blk wr b0 40 #[.slice none 0 0, .slice none 0 0, .int .i64 0, .slice none 0 0]) /\ Hid (Blk wr b1 9 ((L.map ofL).map Value.string).toArray) /\ Hid (CrSt g (.slice na names.length nc) k wr c part) /\ Hid (runP names part c (k + 1) (L.drop k) = R) /\ Hid ((part = 0 /\ c = noQ) \/ part = 3 \/ part = partQ c) /\ Hid (Below w.heap.size w wr))
 case atStart => exact ⟨0, 0, noQ, by show _ /\ _; omega, rfl, hq, hz, hrow, ⟨none, 0, [], none, 0, none, 0, [], hg, CrRows.nil, nlr _, nlr _, nlr _⟩, hR.out, .inl ⟨rfl, rfl⟩, hw2⟩
 case round =>
  clear hq hg hz hrow hw2
  obtain ⟨k, part, c, hk, rfl, hq, hz, hrow, hst, hrun, hpt, hwr⟩ := hrel
  obtain ⟨t, ht⟩ := get_of_lt (xs := L) (k := k) (by have := hk.out; omega)
  have htm := Hd ht
  have hx : wr.cell? ⟨b1, k, none⟩ = some (.string (ofL t)) := by
   rw [hrow.out.cell k]
   simp [ht]
  have CN := Hd (next_any b2 b1 L.length k (ofL t) wr hq.out hx (lt_of_get ht) (by omega) (by have := hO.out; omega))
  have hdr := Hd (show L.drop k = t :: L.drop (k + 1) by
   have h2 := lt_of_get ht
   rw [List.drop_eq_getElem_cons h2]
   rw [List.getElem?_eq_getElem h2] at ht
   injection ht with ht
   rw [ht])
  have hts := Hd (hszl.out t (List.mem_of_getElem? ht))
  clear ht hx
  go_wp2_with fail
  refine CN.out.mono ?_
  rintro e w3 ⟨rfl, hq3, hf3⟩
  have hz3 := hz.out.fr hf3 (by have := hO.out; omega)
  have hrow3 := Hd (hrow.out.fr hf3 (by have := hO.out; omega))
  have hst3 := hst.out.fg hf3 (by have := hO.out; omega)
  have hw3 := Hd (show Below w.heap.size w w3 from Below.fr hwr.out hf3 (fun b hb => by subst hb; have := hO.out; omega) hwr.out.size)
  have hq3' := Hd hq3
  obtain ⟨m, hm⟩ : ∃ m, k + 1 = m := ⟨_, rfl⟩
  have hrun1 := hrun.out
  rw [hdr.out] at hrun1
  rw [hm] at hq3 hrun1 ⊢
  have x0 := hq3.cell 0; have x1 := hq3.cell 1
  have hl3 := hq3.lt
  have y0 := hz3.cell 0; have y1 := hz3.cell 1; have y2 := hz3.cell 2; have y3 := hz3.cell 3
  have p0 := hz3.frozen 0; have p1 := hz3.frozen 1; have p2 := hz3.frozen 2; have p3 := hz3.frozen 3
  have hlz := hz3.lt
  have hz3' := Hd hz3
  have hm' := Hd hm
  have HBD := Hd (fun (v0 v1 v2 v3 : Value) => (((hw3.out.setCell (p := ⟨b0, 0, none⟩) hO.out.1 v0).setCell (p := ⟨b0, 1, none⟩) hO.out.1 v1).setCell (p := ⟨b0, 2, none⟩) hO.out.1 v2).setCell (p := ⟨b0, 3, none⟩) hO.out.1 v3)
  clear CN hz hrow hst hwr hq hf3 hq3 hz3 hdr hrun hm
  by_cases hlast : m = L.length
  ·
   subst hlast
   have hd0 : L.drop L.length = [] := List.drop_length
   rw [hd0, runP_one] at hrun1
   obtain ⟨bt, hbt⟩ : ∃ b, ((ofL t).toList == []) = b := ⟨_, rfl⟩
   have htb : t = [] ↔ bt = true := by rw [<- hbt, toList_data, data_ofL, beq_iff_eq]
   obtain ⟨S, hS⟩ : ∃ S, ofL t = S := ⟨_, rfl⟩
   rw [hS] at hbt ⊢
   clear hS hd0
   cases bt
   ·
    rw [if_neg fun e => by cases htb.1 e.1] at hrun1
    replace hrun1 := Hd hrun1
    clear htb hst3
    go_wp2
    refine world_gen (fun W => Blk W b0 40 #[.slice none 0 0, .slice none 0 0, .int .i64 0, .slice none 0 0] /\ Below w.heap.size w W) ⟨bS (bS (bS (bS hz3'.out rfl) rfl) rfl) rfl, HBD.out _ _ _ _⟩ ?_
    rintro W ⟨hzW, hbW⟩
    have e0 := hzW.cell 0; have e1 := hzW.cell 1; have e2 := hzW.cell 2; have e3 := hzW.cell 3
    refine bodyPost_ret (v := .tuple #[.agg #[.slice none 0 0, .slice none 0 0, .int .i64 0, .slice none 0 0], .int .i64 (L.length : Int), .int .i64 10]) (by simp [results, Tryz.results19, go_sem, e0, e1, e2, e3]) rfl ?_
    exact retCr_bad hrun1.out.symm hbW
   ·
    have ht0 := htb.2 rfl
    obtain ⟨fa, fc, hf, wa, wc, ca, cc, hc, hB, hr, _, _, _⟩ := hst3
    have z5 := hB.cell 5
    have hlg := hB.lt
    by_cases hp3 : part = 3
    ·
     rw [if_pos ⟨ht0, hp3⟩] at hrun1
     subst hp3
     rw [hr.aF.1, hr.aC.1] at hB
     have z1 := hB.cell 1; have z2 := hB.cell 2; have z3 := hB.cell 3; have z4 := hB.cell 4
     have hpx := Hd (hok.out c hrun1.symm)
     replace hrun1 := Hd hrun1; replace hr := Hd hr
     clear htb ht0 hB
     go_wp2
     refine world_gen (fun W => Blk W b0 40 #[.slice fa c.F.length fc, .slice wa c.P.length wc, .int .i64 c.n, .slice ca c.C.length cc] /\ Below w.heap.size w W /\ CrRows g W c.F c.P c.C fa fc hf wa wc ca cc hc) ⟨bS (bS (bS (bS hz3'.out rfl) rfl) rfl) rfl, HBD.out _ _ _ _, hr.out.fr2 (((((Fr.refl _ _).setc (.inl (by have := hO.out; omega))).setc (.inl (by have := hO.out; omega))).setc (.inl (by have := hO.out; omega))).setc (.inl (by have := hO.out; omega)))⟩ ?_
     rintro W ⟨hzW, hbW, hrW⟩
     have e0 := hzW.cell 0; have e1 := hzW.cell 1; have e2 := hzW.cell 2; have e3 := hzW.cell 3
     refine bodyPost_ret (v := .tuple #[.agg #[.slice fa c.F.length fc, .slice wa c.P.length wc, .int .i64 c.n, .slice ca c.C.length cc], .int .i64 0, .int .i64 0]) (by simp [results, Tryz.results19, go_sem, e0, e1, e2, e3]) rfl ?_
     rw [<- hrun1.out]
     exact ⟨fa, wa, ca, fc, wc, cc, rfl, hbW, polysR_of hrW.oF hrW.aF, hrW.oP.reads1 fun x hx => by have := hpx.out x hx; exact ⟨by omega, by omega⟩, polysR_of hrW.oC hrW.aC⟩
    ·
     rw [if_neg fun e => hp3 e.2] at hrun1
     have hp3b : ((part : Int) == 3) = false := by rw [beq_eq_false_iff_ne]; omega
     have hp3c : (part == 3) = false := by rw [beq_eq_false_iff_ne]; exact hp3
     replace hrun1 := Hd hrun1; replace hp3 := Hd hp3
     clear htb ht0 hB hr
     go_wp2
     refine world_gen (fun W => Blk W b0 40 #[.slice none 0 0, .slice none 0 0, .int .i64 0, .slice none 0 0] /\ Below w.heap.size w W) ⟨bS (bS (bS (bS hz3'.out rfl) rfl) rfl) rfl, HBD.out _ _ _ _⟩ ?_
     rintro W ⟨hzW, hbW⟩
     have e0 := hzW.cell 0; have e1 := hzW.cell 1; have e2 := hzW.cell 2; have e3 := hzW.cell 3
     refine bodyPost_ret (v := .tuple #[.agg #[.slice none 0 0, .slice none 0 0, .int .i64 0, .slice none 0 0], .int .i64 (L.length : Int), .int .i64 10]) (by simp [results, Tryz.results19, go_sem, e0, e1, e2, e3]) rfl ?_
     exact retCr_bad hrun1.out.symm hbW
  ·
   have hml : m < L.length := by have := lt_of_get htm.out; have := hm'.out; omega
   have hcb : ((m : Int) == (L.length : Int)) = false := by rw [beq_eq_false_iff_ne]; omega
   have hcc : (m == L.length) = false := by rw [beq_eq_false_iff_ne]; exact hlast
   have hdn : L.drop m ≠ [] := fun e => by have := congrArg List.length e; rw [List.length_drop] at this; simp at this; omega
   rw [runP, if_neg hdn] at hrun1
   have hEg := fun W (hW : Below g w3 W) => HE.out W (hw3.out.trans (hW.mono (by have := hO.out; omega)))
   have hks : (ofL t).size < 4294967281 := by rw [ofL_size]; have := hts.out; omega
   have hkm : k <= 16000000 := by have := hm'.out; omega
   have hWt := hW.out k t htm.out (by have := hm'.out; omega)
   have hlnm : k + 1 = m := hm'.out
   have CLn : Calls Tryz.prog 43 #[.pointer (some ⟨g, 0, none⟩), .string (ofL t)] w3 (RetFa g (.slice na names.length nc) (k + 1) (linP names part c (ofL t).data.toList) w3) := by
    rcases hpt.out with ⟨rfl, rfl⟩ | rfl | hp
    · exact line0_any g names na nc (ofL t) k w3 hst3 hEg hks
    · exact line3_any g names na nc (ofL t) c k w3 hst3 hEg hks
    · exact line1_any g names na nc (ofL t) c part k w3 hp hst3 hkm hEg HNZ.out hnl hks (by rw [data_ofL]; exact hWt)
   rw [data_ofL, hlnm] at CLn
   have hpt2 := fun q c' x (e : linP names part c t = (some (q, c'), x)) => linP_part e
   obtain ⟨G, hG⟩ : ∃ G, linP names part c t = G := ⟨_, rfl⟩
   rw [hG] at CLn hrun1 hpt2
   obtain ⟨S, hS⟩ : ∃ S, ofL t = S := ⟨_, rfl⟩
   rw [hS] at CLn ⊢
   have hrun2 := Hd hrun1
   replace CLn := Hd CLn; replace hpt2 := Hd hpt2
   clear hst3 hEg hks hkm hWt hlnm hdn hG hS hrun1 hpt
   go_wp2_with fail
   refine CLn.out.mono ?_
   rintro e w4 ⟨er, rfl, hb4, hok4, hbad4⟩
   have hz4 := hz3'.out.below hb4 (by have := hO.out; omega)
   have q0 := hz4.cell 0; have q1 := hz4.cell 1; have q2 := hz4.cell 2; have q3 := hz4.cell 3
   have r0 := hz4.frozen 0; have r1 := hz4.frozen 1; have r2 := hz4.frozen 2; have r3 := hz4.frozen 3
   have hlz4 := hz4.lt
   have hw4 := Hd (show Below w.heap.size w w4 from hw3.out.trans (hb4.mono (by have := hO.out; omega)))
   have HBD4 := Hd (fun (v0 v1 v2 v3 : Value) => (((hw4.out.setCell (p := ⟨b0, 0, none⟩) hO.out.1 v0).setCell (p := ⟨b0, 1, none⟩) hO.out.1 v1).setCell (p := ⟨b0, 2, none⟩) hO.out.1 v2).setCell (p := ⟨b0, 3, none⟩) hO.out.1 v3)
   have hz4' := Hd hz4
   have hq4 := Hd (hq3'.out.below hb4 (by have := hO.out; omega))
   have hrow4 := Hd (hrow3.out.below hb4 (by have := hO.out; omega))
   clear CLn x0 x1 hl3 y0 y1 y2 y3 p0 p1 p2 p3 hlz hz3' HBD hq3' hrow3 hw3 hb4 hz4
   obtain ⟨o, er'⟩ := G
   cases o with
   | none =>
    obtain ⟨rfl, h0⟩ := hbad4 er' rfl
    have hrun1 := hrun2
    dsimp only at hrun1
    have hne : (er != 0) = true := by simpa using h0
    replace h0 := Hd h0
    clear hok4 hbad4
    go_wp2
    refine world_gen (fun W => Blk W b0 40 #[.slice none 0 0, .slice none 0 0, .int .i64 0, .slice none 0 0] /\ Below w.heap.size w W) ⟨bS (bS (bS (bS hz4'.out rfl) rfl) rfl) rfl, HBD4.out _ _ _ _⟩ ?_
    rintro W ⟨hzW, hbW⟩
    have e0 := hzW.cell 0; have e1 := hzW.cell 1; have e2 := hzW.cell 2; have e3 := hzW.cell 3
    refine bodyPost_ret (v := .tuple #[.agg #[.slice none 0 0, .slice none 0 0, .int .i64 0, .slice none 0 0], .int .i64 (m : Int), .int .i64 er]) (by simp [results, Tryz.results19, go_sem, e0, e1, e2, e3]) rfl ?_
    exact retCr_bad hrun1.out.symm hbW
   | some qc =>
    obtain ⟨q, c'⟩ := qc
    obtain ⟨rfl, hst4⟩ := hok4 q c' er' rfl
    have hp4 := Hd (hpt2.out q c' er' rfl)
    have hst4' := Hd hst4
    have hrun1 := Hd hrun2.out
    clear hok4 hbad4 hst4 hrun2 hpt2 q0 q1 q2 q3 r0 r1 r2 r3 hlz4
    go_wp2
    go_roundg (gk - 1)
    case rel => exact ⟨m, q, c', by have := hk.out; have := hm'.out; show _ /\ _; omega, by go_num, (by rw [<- hm'.out]; exact hq4.out), hz4'.out, hrow4.out, hst4'.out, hrun1.out, .inr hp4.out, hw4.out⟩
    case measure => have := hk.out; omega
theorem flat_congr {α β : Type} {f g : α -> List β} {l : List α} (h : ∀ x ∈ l, f x = g x) : l.flatMap f = l.flatMap g := by
 induction l with
 | nil => rfl
 | cons x r ih => rw [List.flatMap_cons, List.flatMap_cons, h x (by simp), ih fun y hy => h y (by simp [hy])]
theorem errL_all {names : List ByteArray} : ∀ {l : List (List Trm)}, (∀ p ∈ l, (printP p names).2 = 0) -> errL names l = 0
 | [], _ => rfl
 | p :: r, h => by
  rw [errL, if_pos (h p (by simp))]
  exact errL_all fun q hq => h q (by simp [hq])
theorem facQ_zip (names : List ByteArray) {F : List (List Trm)} {P : List Int} (hP : P.length = F.length) : facQ names F P = (List.zip P F).map fun x => (x.1, (printP x.2 names).1.data.toList, x.2.map trmQ) := by
 apply List.ext_getElem
 · simp [facQ, hP]
 ·
  intro i h1 h2
  have hi : i < F.length := by simpa [facQ] using h1
  have hi2 : i < P.length := by omega
  simp only [facQ, List.getElem_map, List.getElem_range, List.getElem_zip, List.getD_eq_getElem?_getD, List.getElem?_eq_getElem hi, List.getElem?_eq_getElem hi2, Option.getD_some]
theorem cofQ_map (names : List ByteArray) (C : List (List Trm)) : cofQ names C = C.map fun p => ((printP p names).1.data.toList, p.map trmQ) := by
 apply List.ext_getElem
 · simp [cofQ]
 ·
  intro i h1 h2
  have hi : i < C.length := by simpa [cofQ] using h1
  simp only [cofQ, List.getElem_map, List.getElem_range, List.getD_eq_getElem?_getD, List.getElem?_eq_getElem hi, Option.getD_some]
theorem print_list {names : List ByteArray} {p : List Trm} (h : polyB p = true) : (printP p names).1.data.toList = (printT names (p.map trmQ)).1 /\ (printP p names).2 = (printT names (p.map trmQ)).2 := by
 rw [printT_of h]
 exact ⟨ofL_list _, rfl⟩
theorem textC_head {names : List ByteArray} {F C : List (List Trm)} {P : List Int} {n : Int} (hF : ∀ p ∈ F, polyB p = true) (hC : ∀ p ∈ C, polyB p = true) (h : CrOk names ⟨F.map (·.map trmQ), P, n, C.map (·.map trmQ)⟩) :
  textC names F C P n true = (ofL (headQ names ⟨F.map (·.map trmQ), P, n, C.map (·.map trmQ)⟩ ++ (wEnd ++ [10])), 0) := by
 obtain ⟨h1, h2, h3, h4, h5⟩ := h
 have h2' : P.length = F.length := by simpa using h2
 have e1 : errL names F = 0 := errL_all fun p hp => by
  rw [(print_list (hF p hp)).2]
  exact (h4 _ (List.mem_map.2 ⟨p, hp, rfl⟩)).2.2
 have e2 : errL names C = 0 := errL_all fun p hp => by
  rw [(print_list (hC p hp)).2]
  exact (h5 _ (List.mem_map.2 ⟨p, hp, rfl⟩)).2
 unfold textC
 rw [if_pos rfl, if_pos e1, if_pos e2]
 refine Prod.ext ?_ rfl
 apply ba_ext
 dsimp only
 rw [ofL_list, text_list, facQ_zip names h2', cofQ_map]
 have a1 : ((List.zip P F).flatMap fun x => lnFQ x.1 (printP x.2 names).1.data.toList ++ [10]) = (List.zip P (F.map (·.map trmQ))).flatMap fun x => lnFQ x.1 (printT names x.2).1 ++ [10] := by
  rw [List.zip_map_right, List.flatMap_map]
  apply flat_congr
  intro x hx
  have := (print_list (names := names) (hF x.2 (List.of_mem_zip hx).2)).1
  rw [this]
  rfl
 have a2 : (C.flatMap fun p => lnCQ (printP p names).1.data.toList ++ [10]) = (C.map (·.map trmQ)).flatMap fun p => lnCQ (printT names p).1 ++ [10] := by
  rw [List.flatMap_map]
  apply flat_congr
  intro p hp
  rw [(print_list (names := names) (hC p hp)).1]
 unfold headQ
 rw [List.flatMap_map, List.flatMap_map]
 dsimp only
 rw [a1, a2]
 simp
theorem dec_half {d : List UInt8} (h : ∀ c ∈ d, digU c = true) : (limbs (decL d)).length <= (d.length + 1) / 2 := by
 refine limbs_len_le (ltl (decL_lt h) ?_)
 have h1 : 10 ^ d.length <= 10 ^ (2 * ((d.length + 1) / 2)) := Nat.pow_le_pow_right (by decide) (by omega)
 rw [Nat.pow_mul] at h1
 exact Nat.le_trans h1 (Nat.pow_le_pow_left (by decide) _)
theorem qv_half2 {n d k : Nat} (hn : (limbs n).length <= k) (hd : (limbs d).length <= k) (hk : 1 <= k) : qsz (qv false n d) <= k := by
 obtain ⟨h1, h2⟩ := qv_num_le false n d
 refine qsz_le (Nat.le_trans (limbs_len_mono h1) hn) ?_
 by_cases h0 : d = 0
 ·
  subst h0
  exact Nat.le_trans (limbs_len_mono h2) (Nat.le_trans (limbs_len_le (show 0 + 1 < 65536 ^ 1 by decide)) hk)
 ·
  have : (qv false n d).den <= d := by
   unfold qv
   exact (mk_num_le _ d h0).2
  exact Nat.le_trans (limbs_len_mono this) hd
theorem numG_cut {l d r : List UInt8} (h : numG l = .ok d r) : d.length + r.length = l.length := by
 unfold numG at h
 split at h
 · exact absurd h fun e => lost_ok e
 ·
  split at h
  · cases h
  ·
   injection h with h1 h2
   subst h1 h2
   rw [List.length_take, List.length_drop]
   omega
theorem cofG_wt {l r : List UInt8} {q : Rat} (h : cofG l = .ok q r) : 2 * qsz q <= l.length - r.length + 1 /\ r.length < l.length := by
 unfold cofG at h
 obtain ⟨d, r1, h1, h2⟩ := bnd_ok h
 have e1 := numG_cut h1
 obtain ⟨o1, _, o3, _⟩ := numG_ok h1
 have e3 := dec_half o3
 split at h2
 ·
  next h47 =>
  obtain ⟨d2, r2, h3, h4⟩ := bnd_ok h2
  have e2 := numG_cut h3
  obtain ⟨p1, _, p3, _⟩ := numG_ok h3
  have e4 := dec_half p3
  split at h4
  · cases h4
  ·
   injection h4 with h5 h6
   subst h5 h6
   rw [List.length_drop] at e2
   have := qv_half2 (n := decL d) (d := decL d2) (k := max ((d.length + 1) / 2) ((d2.length + 1) / 2)) (by omega) (by omega) (by omega)
   omega
 ·
  injection h2 with h3 h4
  subst h3 h4
  have hl1 : (limbs 1).length = 1 := by rw [limbs_one]; rfl
  have := qv_half2 (n := decL d) (d := 1) (k := (d.length + 1) / 2) e3 (by rw [hl1]; omega) (by omega)
  omega
theorem proG_less {names : List ByteArray} {F n : Nat} {m m' : List Int} {l r : List UInt8} (h : proG names F n m l = .ok m' r) : r.length < l.length := by
 cases n with
 | zero => cases h
 | succ n =>
  rw [proG] at h
  obtain ⟨p, r1, h1, h2⟩ := bnd_ok h
  have e1 : r1.length < l.length := by
   unfold powG at h1
   obtain ⟨v, r3, g1, g2⟩ := bnd_ok h1
   have e1 := namG_less g1
   split at g2
   ·
    obtain ⟨d2, r2, h3, h4⟩ := bnd_ok g2
    have e2 := numG_le h3
    split at h4
    · cases h4
    · injection h4 with h5 h6; subst h6; rw [List.length_drop] at e2; omega
   · injection g2 with h3 h4; subst h4; omega
  split at h2
  · cases h2
  ·
   split at h2
   · have e2 := proG_le h2; rw [List.length_drop] at e2; omega
   · injection h2 with h3 h4; subst h4; exact e1
theorem monG_wt {names : List ByteArray} {F : Nat} {q : Rat} {l r : List UInt8} {u : Tm} (h : monG names F q l = .ok u r) : u.1 = q /\ r.length < l.length := by
 unfold monG at h
 obtain ⟨p, r1, h1, h2⟩ := bnd_ok h
 injection h2 with h3 h4
 subst h3 h4
 exact ⟨rfl, proG_less h1⟩
theorem terG_wt {names : List ByteArray} {l r : List UInt8} {u : Tm} (h : terG names l = .ok u r) : 2 * qsz u.1 <= l.length - r.length + 1 /\ r.length < l.length := by
 unfold terG at h
 split at h
 ·
  obtain ⟨e1, e2⟩ := monG_wt h
  rw [e1]
  have := qsz_unit
  exact ⟨by omega, e2⟩
 ·
  obtain ⟨q, r1, h1, h2⟩ := bnd_ok h
  obtain ⟨e1, e2⟩ := cofG_wt h1
  split at h2
  ·
   obtain ⟨e3, e4⟩ := monG_wt h2
   rw [List.length_drop] at e4
   rw [e3]
   exact ⟨by omega, by omega⟩
  ·
   injection h2 with h3 h4
   subst h3 h4
   exact ⟨e1, e2⟩
theorem sepG_three {l r : List UInt8} {ng : Bool} (h : sepG l = .ok ng r) : r.length + 3 <= l.length := by
 unfold sepG at h
 obtain ⟨_, r1, h1, h2⟩ := bnd_ok h
 have e1 := eatG_less h1
 split at h2
 ·
  next h45 =>
  obtain ⟨_, r2, h3, h4⟩ := bnd_ok h2
  have e2 := eatG_less h3
  injection h4 with h5 h6
  subst h6
  rw [List.length_drop] at e2
  omega
 ·
  obtain ⟨_, r2, h3, h4⟩ := bnd_ok h2
  have e2 := eatG_less h3
  obtain ⟨_, r3, h5, h6⟩ := bnd_ok h4
  have e3 := eatG_less h5
  injection h6 with h7 h8
  subst h8
  omega
theorem wtP_snoc (L : List Tm) (u : Tm) : wtP (L ++ [u]) = wtP L + (qsz u.1 + 1) := by unfold wtP; rw [List.map_append, List.sum_append]; simp
theorem sumG_wt {names : List ByteArray} : ∀ {f : Nat} {neg : Bool} {acc L : List Tm} {l r : List UInt8}, sumG names f neg acc l = .ok L r -> 2 * wtP L <= 2 * wtP acc + l.length + 3
 | 0, _, _, _, _, _, h => by cases h
 | f + 1, neg, acc, L, l, r, h => by
  rw [sumG] at h
  split at h
  · cases h
  ·
   obtain ⟨u, r1, h1, h2⟩ := bnd_ok h
   obtain ⟨e1, e2⟩ := terG_wt h1
   have hq : qsz (sgnT neg u).1 = qsz u.1 := by unfold sgnT; split; exact qsz_neg _; rfl
   have hw := wtP_snoc acc (sgnT neg u)
   rw [hq] at hw
   split at h2
   ·
    injection h2 with h3 h4
    subst h3
    omega
   ·
    obtain ⟨ng, r2, h3, h4⟩ := bnd_ok h2
    have e3 := sepG_three h3
    have e4 := sumG_wt h4
    omega
theorem wok_short {names : List ByteArray} {s : List UInt8} (h : s.length <= 1999) : Wok names s := fun L r hL => by
 unfold reaG at hL
 have h0 : wtP [] = 0 := rfl
 split at hL
 ·
  have := sumG_wt hL
  rw [List.length_drop] at this
  omega
 ·
  have := sumG_wt hL
  omega
theorem wokL_short {names : List ByteArray} {t : List UInt8} (h : t.length <= 2000) : WokL names t := fun w r hc => by
 obtain ⟨g, _⟩ := cutL_some 32 t w r hc
 have hr : r.length <= 1999 := by have := congrArg List.length g; simp at this; omega
 refine ⟨fun _ => wok_short hr, fun _ d x hx => ?_⟩
 obtain ⟨g2, _⟩ := cutL_some 32 r d x hx
 exact wok_short (by have := congrArg List.length g2; simp at this; omega)
def FineC (c : CrQ) : Prop := ∀ p, (p ∈ c.F \/ p ∈ c.C) -> FineP p /\ p.length <= 500
theorem polC_fine {names : List ByteArray} {s : List UInt8} {p : List Tm} {e : Int} (hW : Wok names s) (h : polC names s = (some p, e)) : FineP p /\ p.length <= 500 := by
 obtain ⟨_, _, r, hr⟩ := polC_form h
 have h1 := readP_few hW hr
 unfold readP at hr
 obtain ⟨L, s', hL, h2⟩ := bnd_ok hr
 injection h2 with h2 _
 have hM := (reaG_ok hL).2
 have h3 := ones_fine hM (hW L _ hL) (onesP L) (List.infix_refl _)
 have hnm : halvesP (onesP L) = normP L := normP_halves hM
 rw [hnm, h2] at h3
 exact ⟨h3, h1.1⟩
theorem fineC_noQ : FineC noQ := fun p hp => by rcases hp with hp | hp <;> cases hp
theorem lineQ_fine {names : List ByteArray} {c c' : CrQ} {t : List UInt8} {e : Int} (hW : WokL names t) (hc : FineC c) (h : lineQ names c t = (some c', e)) : FineC c' := by
 unfold lineQ at h
 split at h
 · cases h
 ·
  next w r hcut =>
  obtain ⟨k1, k2⟩ := hW w r hcut
  split at h
  ·
   next hw =>
   split at h
   ·
    next p e' hp =>
    injection h with h _
    injection h with h
    subst h
    intro q hq
    rcases hq with hq | hq
    · exact hc q (.inl hq)
    ·
     rcases List.mem_append.1 hq with hq | hq
     · exact hc q (.inr hq)
     · rw [List.mem_singleton] at hq; subst hq; exact polC_fine (k1 hw) hp
   · cases h
  ·
   split at h
   ·
    next hw =>
    split at h
    · cases h
    ·
     next d x hcut2 =>
     split at h
     · cases h
     ·
      split at h
      ·
       split at h
       ·
        next p e' hp =>
        split at h
        · cases h
        ·
         injection h with h _
         injection h with h
         subst h
         intro q hq
         rcases hq with hq | hq
         ·
          rcases List.mem_append.1 hq with hq | hq
          · exact hc q (.inl hq)
          · rw [List.mem_singleton] at hq; subst hq; exact polC_fine (k2 hw d x hcut2) hp
         · exact hc q (.inr hq)
       · cases h
      · cases h
   · cases h
theorem linP_fine {names : List ByteArray} {part q : Nat} {c c' : CrQ} {t : List UInt8} {e : Int} (hW : WokL names t) (hc : FineC c) (h : linP names part c t = (some (q, c'), e)) : FineC c' := by
 unfold linP at h
 split at h
 ·
  split at h
  ·
   next c1 hf =>
   injection h with h _
   injection h with h
   injection h with _ h2
   subst h2
   unfold firstQ at hf
   split at hf
   ·
    split at hf
    ·
     obtain ⟨n, _, rfl⟩ := Option.map_eq_some_iff.1 hf
     intro p hp; rcases hp with hp | hp <;> cases hp
    · cases hf
   · cases hf
  · cases h
 ·
  split at h
  · cases h
  ·
   split at h
   ·
    injection h with h _
    injection h with h
    injection h with _ h2
    subst h2
    exact hc
   ·
    split at h
    ·
     next c1 e1 hl =>
     injection h with h _
     injection h with h
     injection h with _ h2
     subst h2
     exact lineQ_fine hW hc hl
    · cases h
theorem runP_fine {names : List ByteArray} : ∀ (L : List (List UInt8)) (part : Nat) (c : CrQ) (n : Nat), FineC c -> (∀ j t, L[j]? = some t -> j + 1 < L.length -> WokL names t) -> FineC (runP names part c n L).1
 | [], _, _, _, _, _ => by rw [runP]; exact fineC_noQ
 | t :: r, part, c, n, hc, hW => by
  rw [runP]
  by_cases hr : r = []
  ·
   rw [if_pos hr]
   split
   · exact hc
   · exact fineC_noQ
  ·
   rw [if_neg hr]
   have hl : 0 < r.length := List.length_pos_iff.2 hr
   split
   ·
    next q c' e hlp =>
    exact runP_fine r q c' (n + 1) (linP_fine (hW 0 t rfl (by rw [List.length_cons]; omega)) hc hlp) fun j u hu hj => hW (j + 1) u (by simpa using hu) (by rw [List.length_cons]; omega)
   · exact fineC_noQ
theorem readQ_fine {names : List ByteArray} {s : List UInt8} (hW : ∀ j t, (linesL s)[j]? = some t -> j + 1 < (linesL s).length -> WokL names t) : FineC (readQ names s).1 := by
 rw [<- runP_read]
 exact runP_fine _ _ _ _ fineC_noQ hW
theorem lines_short {names : List ByteArray} {s : List UInt8} (h : s.length <= 2000) : ∀ j t, (linesL s)[j]? = some t -> j + 1 < (linesL s).length -> WokL names t := fun j t ht _ => wokL_short (Nat.le_trans (linesL_short s t (List.mem_of_getElem? ht)) h)
theorem crtP_any (F C : List (List Trm)) (P : List Int) (n : Int) (fa wa ca : Option Addr) (fc wc cc : Nat) (w : World) (h1 : PolysR w fa fc F) (h2 : IntsR w wa wc P) (h3 : PolysR w ca cc C) (hn : InInt n)
  (hq1 : ∀ p ∈ F, ∀ t ∈ p, t.coef.num.length <= 2000000 /\ t.coef.den.length <= 2000000) (hq2 : ∀ p ∈ C, ∀ t ∈ p, t.coef.num.length <= 2000000 /\ t.coef.den.length <= 2000000) :
  Calls Tryz.prog 24 #[.agg #[.slice fa F.length fc, .slice wa P.length wc, .int .i64 n, .slice ca C.length cc]] w fun e w' => e = .returned (.bool (crtB ⟨F, P, n, C⟩)) /\ Below w.heap.size w w' := by
 have hl1 := h1.len; have hl2 := h2.len; have hl3 := h3.len
 obtain ⟨hn1, hn2⟩ := hn
 obtain ⟨res, hres⟩ : ∃ x, crtB ⟨F, P, n, C⟩ = x := ⟨_, rfl⟩
 rw [hres]
 have HRES := Hd hres
 have H1 := Hd h1; have H2 := Hd h2; have H3 := Hd h3; have Q1 := Hd hq1; have Q2 := Hd hq2
 have hx := Blk.new w 40 #[.slice fa F.length fc, .slice wa P.length wc, .int .i64 n, .slice ca C.length cc]
 have hw0 : Below w.heap.size w (w.alloc (.cells #[.slice fa F.length fc, .slice wa P.length wc, .int .i64 n, .slice ca C.length cc] 40)) := brf.alloc (nlr _) _
 clear hres h1 h2 h3 hq1 hq2
 by_cases hpf : P.length = F.length
 case neg =>
  obtain rfl : res = false := by rw [<- HRES.out]; exact crtB_len hpf
  have hne : ((P.length : Int) != (F.length : Int)) = true := by simp; omega
  clear hpf
  go_enter Tryz.func24, Tryz.ntmps24
  go_wp2
  go_ret
  exact ⟨rfl, hw0⟩
 have hne : ((P.length : Int) != (F.length : Int)) = false := by simp; omega
 by_cases hp : 1 <= n /\ n <= 64
 case neg =>
  obtain rfl : res = false := by rw [<- HRES.out]; exact crtB_pow hp
  clear hpf
  by_cases hlo : n < 1
  ·
   clear hp
   go_enter Tryz.func24, Tryz.ntmps24
   go_wp2
   go_ret
   exact ⟨rfl, hw0⟩
  ·
   have hhi : 64 < n := by omega
   clear hp
   go_enter Tryz.func24, Tryz.ntmps24
   go_wp2
   go_ret
   exact ⟨rfl, hw0⟩
 have HPF := Hd hpf
 obtain ⟨hp1, hp2⟩ := hp
 clear hpf
 go_enter Tryz.func24, Tryz.ntmps24
 go_wp2
 revert hx hw0
 generalize w.alloc (.cells #[.slice fa F.length fc, .slice wa P.length wc, .int .i64 n, .slice ca C.length cc] 40) = w0
 intro hx hw0
 clear hne
 go_loopg [27] F.length (fun g q wr => ∃ k : Nat, k + g = F.length /\ q = .int .i64 k /\ Below w.heap.size w wr /\ Blk wr w.heap.size 40 #[.slice fa F.length fc, .slice wa P.length wc, .int .i64 n, .slice ca C.length cc] /\ ∀ j, j < k -> facB ⟨F, P, n, C⟩ j = true)
 case atStart => exact ⟨0, by omega, rfl, hw0, hx, fun j hj => by omega⟩
 case round =>
  clear hx hw0
  obtain ⟨k, hkg, rfl, hwr, hx, hall⟩ := hrel
  have HKG := Hd hkg
  have HA := Hd hall
  have hxl := hx.lt
  have z0 := hx.cell 0; have z1 := hx.cell 1; have z2 := hx.cell 2; have z3 := hx.cell 3
  have HX := Hd hx
  clear hkg hall hx
  by_cases hlt : k < F.length
  ·
   obtain ⟨x, hxx⟩ := get_of_lt (xs := P) (k := k) (by rw [HPF.out]; exact hlt)
   obtain ⟨f, hf⟩ := get_of_lt hlt
   have hkp : k < P.length := lt_of_get hxx
   obtain ⟨b, off, hao, hc, hx1, hx2⟩ := ints_cell (H2.out.ext (xbw hwr)) hxx
   obtain ⟨b', off', hao', pa, pc, hc', hPR⟩ := (H1.out.ext (xbw hwr)).2.2 k f hf
   subst hao hao'
   have hfl := hPR.len
   have hfac := facB_of (c := ⟨F, P, n, C⟩) hxx hf
   have CP := polyP_any f pa pc wr hPR (Q1.out f (List.mem_of_getElem? hf))
   have HF := Hd hfac
   simp only [Nat.mul_one] at hc'
   have hbl : b < wr.heap.size := World.block_lt_of_cell? wr _ hc
   have hbl' : b' < wr.heap.size := World.block_lt_of_cell? wr _ hc'
   clear hxx hf hPR hfac
   by_cases hxr : 0 <= x /\ x <= 64
   case neg =>
    obtain rfl : res = false := by rw [<- HRES.out]; exact crtB_fac hlt (by rw [HF.out, decide_eq_false hxr]; rfl)
    clear CP
    by_cases hx0 : x < 0
    ·
     clear hxr
     go_wp2
     go_ret
     exact ⟨rfl, hwr⟩
    ·
     have hx64 : 64 < x := by omega
     clear hxr
     go_wp2
     go_ret
     exact ⟨rfl, hwr⟩
   have HF2 := HF.out
   rw [decide_eq_true hxr] at HF2
   obtain ⟨hxr1, hxr2⟩ := hxr
   by_cases hf0 : f.length = 0
   ·
    obtain rfl : res = false := by rw [<- HRES.out]; exact crtB_fac hlt (by rw [HF2, decide_eq_true hf0]; rfl)
    have he0 : ((f.length : Int) == 0) = true := by simp [hf0]
    clear CP HF2 hf0
    go_wp2
    go_ret
    exact ⟨rfl, hwr⟩
   ·
    have he0 : ((f.length : Int) == 0) = false := by simp; exact fun e => hf0 (by simp [e])
    rw [decide_eq_false hf0] at HF2
    revert CP HF2
    generalize polyB f = pb
    intro CP HF2
    replace CP := Hd CP
    replace HF2 := Hd HF2
    clear hf0 HF
    cases pb
    ·
     obtain rfl : res = false := by rw [<- HRES.out]; exact crtB_fac hlt (by rw [HF2.out]; rfl)
     clear HF2
     go_wp2_with fail
     refine CP.out.mono ?_
     rintro e w2 ⟨rfl, hb2⟩
     have hw2 := bth hwr hb2
     go_wp2
     go_ret
     exact ⟨rfl, hw2⟩
    ·
     go_wp2_with fail
     refine CP.out.mono ?_
     rintro e w2 ⟨rfl, hb2⟩
     have hw2 := bth hwr hb2
     have hx2 := HX.out.below' hb2
     go_wp2
     go_roundg (gk - 1)
     case rel => exact ⟨k + 1, by have := HKG.out; omega, by go_num, hw2, hx2, all_succ HA.out (by rw [HF2.out]; rfl)⟩
     case measure => have := HKG.out; omega
  ·
   have hfin : ∀ j, j < F.length -> facB ⟨F, P, n, C⟩ j = true := fun j hj => HA.out j (by omega)
   have HFIN := Hd hfin
   obtain ⟨wo, rfl⟩ : ∃ wo : World, wo = wr := ⟨_, rfl⟩
   clear hfin HKG HA
   go_wp2
   go_loopg [60] C.length (fun g q wr => ∃ k : Nat, k + g = C.length /\ q = .int .i64 k /\ Below w.heap.size w wr /\ (C.take k).all polyB = true)
   case atStart => exact ⟨0, by omega, rfl, hwr, rfl⟩
   case round =>
    clear HX z0 z1 z2 z3 hxl hwr
    obtain ⟨k2, hkg, rfl, hwr, hall⟩ := hrel
    have HKG := Hd hkg
    have HA := Hd hall
    clear hkg hall
    by_cases hlt2 : k2 < C.length
    ·
     obtain ⟨f, hf⟩ := get_of_lt hlt2
     obtain ⟨b', off', hao', pa, pc, hc', hPR⟩ := (H3.out.ext (xbw hwr)).2.2 k2 f hf
     subst hao'
     have hfl := hPR.len
     have CP := polyP_any f pa pc wr hPR (Q2.out f (List.mem_of_getElem? hf))
     have HF := Hd hf
     simp only [Nat.mul_one] at hc'
     have hbl' : b' < wr.heap.size := World.block_lt_of_cell? wr _ hc'
     clear hf hPR
     cases hpb : polyB f
     ·
      rw [hpb] at CP
      obtain rfl : res = false := by rw [<- HRES.out]; exact crtB_cof HF.out hpb
      replace CP := Hd CP
      clear hpb
      go_wp2_with fail
      refine CP.out.mono ?_
      rintro e w2 ⟨rfl, hb2⟩
      have hw2 := bth hwr hb2
      go_wp2
      go_ret
      exact ⟨rfl, hw2⟩
     ·
      rw [hpb] at CP
      replace CP := Hd CP
      have HPB := Hd hpb
      clear hpb
      go_wp2_with fail
      refine CP.out.mono ?_
      rintro e w2 ⟨rfl, hb2⟩
      have hw2 := bth hwr hb2
      go_wp2
      go_roundg (gk - 1)
      case rel => exact ⟨k2 + 1, by have := HKG.out; omega, by go_num, hw2, all_take HA.out HF.out HPB.out⟩
      case measure => have := HKG.out; omega
    ·
     have HA2 := HA.out
     rw [show k2 = C.length by have := HKG.out; omega] at HA2
     obtain rfl : res = true := by rw [<- HRES.out]; exact crtB_good HPF.out ⟨hp1, hp2⟩ HFIN.out HA2
     clear HA2
     go_wp2
     go_ret
     exact ⟨rfl, hwr⟩
theorem ba_assoc (a b c : ByteArray) : a ++ b ++ c = a ++ (b ++ c) := by apply ba_ext; simp [ByteArray.data_append]
theorem own_one {w : World} {g B : Nat} {x : ByteArray} (h : Blk w g 9 #[.string x]) (hB : B <= g) : OwnS B w (some ⟨g, 0, none⟩) 1 [x] := by
 refine ⟨by rw [flatMap_len strC_len], .inr ⟨g, 1, _, rfl, hB, h, nlr _, by simp [maxLen], by simp, ?_⟩⟩
 simp [strC]
structure FineL (l : List (List Trm)) : Prop where
 right : ∀ p ∈ l, polyB p = true
 few : ∀ p ∈ l, p.length <= 1000
 small : ∀ p ∈ l, ∀ t ∈ p, t.coef.num.length <= 1000 /\ t.coef.den.length <= 1000
theorem FineL.size {l : List (List Trm)} (h : FineL l) {names : List ByteArray} (hn : ∀ s ∈ names, s.size <= 1048576) {p : List Trm} (hp : p ∈ l) : (printP p names).1.size <= 1400000003000 :=
 printP_size (fun t ht => by
  obtain ⟨h1, h2⟩ := polyB_terms (h.right p hp) t ht
  obtain ⟨h3, h4⟩ := h.small p hp t ht
  exact termB_size hn (fun x hx => ((monoB_mem h2).2 x hx).2) (textT_len h1 h3 h4) (monoB_mem h2).1) (h.few p hp)
theorem crtB_fine {F C : List (List Trm)} {P : List Int} {n : Int} (h : crtB ⟨F, P, n, C⟩ = true) : P.length = F.length /\ (1 <= n /\ n <= 64) /\ (∀ p ∈ F, polyB p = true) /\ (∀ p ∈ C, polyB p = true) /\ ∀ x ∈ P, 0 <= x /\ x <= 64 := by
 unfold crtB at h
 simp only [Bool.and_eq_true, decide_eq_true_eq, List.all_eq_true] at h
 obtain ⟨⟨⟨h1, h2⟩, h3⟩, h4⟩ := h
 have key : ∀ (k : Nat) (p : List Trm) (x : Int), F[k]? = some p -> P[k]? = some x -> (0 <= x /\ x <= 64) /\ polyB p = true := fun k p x hp hx => by
  have := h3 k (List.mem_range.2 (lt_of_get hp))
  rw [facB_of hx hp] at this
  simp only [Bool.and_eq_true, decide_eq_true_eq] at this
  exact ⟨this.1.1, this.2⟩
 refine ⟨h1, h2, fun p hp => ?_, h4, fun x hx => ?_⟩
 ·
  obtain ⟨k, hk⟩ := List.getElem?_of_mem hp
  obtain ⟨x, hx⟩ := get_of_lt (xs := P) (k := k) (by have := lt_of_get hk; omega)
  exact (key k p x hk hx).2
 ·
  obtain ⟨k, hk⟩ := List.getElem?_of_mem hx
  obtain ⟨p, hp⟩ := get_of_lt (xs := F) (k := k) (by have := lt_of_get hk; omega)
  exact (key k p x hp hk).1
theorem certSM_any (M : Nat) (F C : List (List Trm)) (P : List Int) (n : Int) (names : List ByteArray) (fa wa ca na : Option Addr) (fc wc cc nc : Nat) (w : World) (h1 : PolysR w fa fc F) (h2 : IntsR w wa wc P) (h3 : PolysR w ca cc C) (hn : InInt n)
  (hF : ∀ p ∈ F, p.length <= 1000 /\ ∀ t ∈ p, t.coef.num.length <= 1000 /\ t.coef.den.length <= 1000) (hC : ∀ p ∈ C, p.length <= 1000 /\ ∀ t ∈ p, t.coef.num.length <= 1000 /\ t.coef.den.length <= 1000) (hMF : ∀ p ∈ F, (printP p names).1.size <= M) (hMC : ∀ p ∈ C, (printP p names).1.size <= M) (hlF : F.length <= 1000000) (hlC : C.length <= 1000000) (hMZ : (F.length + 1 + C.length) * (M + 100 + 1) <= 140737488355000)
  (hN : StrsR w na nc names) (hnl : names.length <= 1000) (hnz : ∀ s ∈ names, s.size <= 1048576) (ht : TabW w) :
  Calls Tryz.prog 23 #[.agg #[.slice fa F.length fc, .slice wa P.length wc, .int .i64 n, .slice ca C.length cc], .slice na names.length nc] w fun e w' => e = .returned (.tuple #[.string (textC names F C P n (crtB ⟨F, P, n, C⟩)).1, .int .i64 (textC names F C P n (crtB ⟨F, P, n, C⟩)).2]) /\ Below w.heap.size w w' := by
 have CR := fun W (hW : Below w.heap.size w W) => crtP_any F C P n fa wa ca fc wc cc W (h1.ext (xbw hW)) (h2.ext (xbw hW)) (h3.ext (xbw hW)) hn (fun p hp t ht => by have := (hF p hp).2 t ht; omega) (fun p hp t ht => by have := (hC p hp).2 t ht; omega)
 have HF := Hd (fun W (hW : Below w.heap.size w W) => h1.ext (xbw hW))
 have HP := Hd (fun W (hW : Below w.heap.size w W) => h2.ext (xbw hW))
 have HC := Hd (fun W (hW : Below w.heap.size w W) => h3.ext (xbw hW))
 have HN := Hd (fun W (hW : Below w.heap.size w W) => hN.ext (xbw hW))
 have HT := Hd (fun W (hW : Below w.heap.size w W) => ht.below hW)
 have HNZ := Hd hnz
 have HMF := Hd hMF; have HMC := Hd hMC; have HMZ := Hd hMZ
 clear hMF hMC hMZ
 obtain ⟨bc, hbc⟩ : ∃ b, crtB ⟨F, P, n, C⟩ = b := ⟨_, rfl⟩
 rw [hbc]
 simp only [hbc] at CR
 obtain ⟨R, hR⟩ : ∃ r, textC names F C P n bc = r := ⟨_, rfl⟩
 rw [hR]
 unfold textC at hR
 have hfine := fun (h : bc = true) => crtB_fine (hbc.trans h)
 replace CR := Hd CR; replace hfine := Hd hfine
 have HFQ := Hd hF; have HCQ := Hd hC
 clear h1 h2 h3 hN hnz ht hbc hF hC
 go_enter Tryz.func23, Tryz.ntmps23
 go_wp2_with fail
 refine calls_gen (fun W => Blk W w.heap.size 40 #[.slice fa F.length fc, .slice wa P.length wc, .int .i64 n, .slice ca C.length cc] /\ Below w.heap.size w W) ⟨by ((with_reducible repeat first|assumption|(apply bF;focus omega)|apply bS|(apply bN;focus (simp;done))|apply bA|apply bD);all_goals rfl), by go_grown⟩ ?_
 rintro w0 ⟨h0, hw0⟩
 refine (CR.out w0 hw0).mono ?_
 rintro e w1 ⟨rfl, hb1⟩
 have hw1 := bth hw0 hb1
 replace h0 := h0.below' hb1
 clear hw0 hb1 CR
 cases bc
 ·
  have hfin := Hd (show R = (⟨#[]⟩, 1) from hR.symm)
  clear hR hfine h0
  go_wp2
  go_ret2
  exact ⟨by rw [hfin.out]; rfl, hw1⟩
 obtain ⟨hPF0, ⟨hn1, hn2⟩, hrF, hrC, hPx⟩ := hfine.out rfl
 have hPF := Hd hPF0
 clear hPF0
 have FF := Hd (FineL.mk hrF (fun p hp => (HFQ.out p hp).1) (fun p hp => (HFQ.out p hp).2))
 have FC := Hd (FineL.mk hrC (fun p hp => (HCQ.out p hp).1) (fun p hp => (HCQ.out p hp).2))
 have HPX := Hd hPx
 rw [if_pos rfl] at hR
 obtain ⟨pn, rfl⟩ : ∃ pn : Nat, n = (pn : Int) := ⟨n.toNat, by omega⟩
 clear hrF hrC hPx hfine HFQ HCQ hn
 have x2 := h0.cell 2
 have hl0 := digs_1m (pn : Int) (by omega)
 rw [Int.toNat_natCast, <- ofL_size] at hl0
 have hz1 : (6 : Nat) + (ofL (textN pn)).size <= 20 := by omega
 have CI := Hd (itoaN_any pn w1 (HT.out w1 hw1) (by omega))
 go_wp2_with fail
 refine CI.out.mono ?_
 rintro e w2 ⟨rfl, hb2⟩
 have hw2 := bth hw1 hb2
 replace h0 := h0.below' hb2
 have y0 := h0.cell 0
 clear x2 CI hb2 hw1
 have gl0 := h0.lt
 have hs2 := hw2.size
 go_wp2
 refine world_gen (fun W => Blk W w2.heap.size 9 #[.string (⟨#[112, 111, 119, 101, 114, 32]⟩ ++ ofL (textN pn))] /\ Blk W w.heap.size 40 #[.slice fa F.length fc, .slice wa P.length wc, .int .i64 (pn : Int), .slice ca C.length cc] /\ Below w.heap.size w W) (by refine ⟨?_,?_,?_⟩<;>first|((with_reducible repeat first|assumption|(apply bF;focus omega)|apply bS|(apply bN;focus (simp;done))|apply bA|apply bD);all_goals rfl)|go_grown) ?_
 rintro w3 ⟨hr, h1, hw3⟩
 have hO0 := own_one (x := ln0 (pn : Int)) (B := w.heap.size + 1) hr (by omega)
 clear h0 y0 hr gl0 hs2 hw2
 have hlF1 : lnsF names F P (pn : Int) 0 = [ln0 (pn : Int)] := by simp [lnsF]
 replace hlF1 := Hd hlF1
 obtain ⟨g2, hg2⟩ : ∃ q, w2.heap.size = q := ⟨_, rfl⟩
 rw [hg2] at hO0 ⊢
 clear hg2 hl0 hz1
 go_loopg [6, 7, 8, 9, 10, 26, 31] F.length (fun g s6 _ _ _ _ s26 _ wr => ∃ (k : Nat) (a2 : Option Addr) (c2 : Nat), Hid (k + g = F.length) /\ s26 = .int .i64 k /\ s6 = .slice a2 (lnsF names F P (pn : Int) k).length c2 /\ OwnS (w.heap.size + 1) wr a2 c2 (lnsF names F P (pn : Int) k) /\ Blk wr w.heap.size 40 #[.slice fa F.length fc, .slice wa P.length wc, .int .i64 (pn : Int), .slice ca C.length cc] /\ Hid (errL names F = errL names (F.drop k)) /\ Below w.heap.size w wr)
 case atStart => exact ⟨0, some ⟨g2, 0, none⟩, 1, by show _ = _; omega, rfl, by rw [hlF1.out]; rfl, by rw [hlF1.out]; exact hO0, h1, rfl, hw3⟩
 case round =>
  clear hO0 h1 hw3
  obtain ⟨k, a2, c2, hk, rfl, rfl, hO, h0, her, hwr⟩ := hrel
  have HO := Hd hO
  clear hO
  by_cases hlt : k < F.length
  ·
   obtain ⟨p, hp⟩ := get_of_lt hlt
   have hpm := List.mem_of_getElem? hp
   obtain ⟨x, hx⟩ := get_of_lt (xs := P) (k := k) (by have := hPF.out; omega)
   obtain ⟨hx0, hx1⟩ := HPX.out x (List.mem_of_getElem? hx)
   obtain ⟨bf, of, rfl, ap, cp, hcf, hPR⟩ := (HF.out wr hwr).2.2 k p hp
   simp only [Nat.mul_one] at hcf
   obtain ⟨bx, ox, rfl, hcx, hxw⟩ := (HP.out wr hwr).2.2 k x hx
   simp only [Nat.mul_one] at hcx
   obtain ⟨xn, rfl⟩ : ∃ xn : Nat, x = (xn : Int) := ⟨x.toNat, by omega⟩
   have CP := printS_any p names ap na cp nc wr hPR (FF.out.small p hpm) (FF.out.few p hpm) (HN.out wr hwr) hnl HNZ.out (HT.out wr hwr)
   have hps := FF.out.size HNZ.out hpm
   have hel := errL_at (names := names) hp
   have hls := lnsF_succ (names := names) (n := (pn : Int)) hp hx
   unfold lnF at hls
   obtain ⟨pr, hpr⟩ : ∃ r, printP p names = r := ⟨_, rfl⟩
   rw [hpr] at CP hps hel hls
   obtain ⟨ts, te⟩ := pr
   dsimp only at CP hps hel hls
   replace CP := Hd CP; replace hel := Hd (her.out.trans hel); replace hls := Hd hls
   have hkx : k < P.length := by have := hPF.out; omega
   clear hpr hp hx hxw hPR hpm her
   go_wp2_with fail
   refine CP.out.mono ?_
   rintro e w4 ⟨rfl, hb4⟩
   have hw4 := bth hwr hb4
   have HO4 := Hd (HO.out.below hb4)
   replace h0 := h0.below' hb4
   have hcx4 := held hcx w4 hb4
   have y1 := h0.cell 1
   clear CP HO hcx hcf
   by_cases he : te = 0
   ·
    subst he
    have hne : ((0 : Int) != 0) = false := rfl
    have HE := Hd (show errL names F = errL names (F.drop (k + 1)) from hel.out.trans (if_pos rfl))
    have CI := Hd (itoaN_any xn w4 (HT.out w4 hw4) (by omega))
    have hl0 := digs_1m (xn : Int) (by omega)
    rw [Int.toNat_natCast, <- ofL_size] at hl0
    clear hel
    go_wp2_with fail
    refine CI.out.mono ?_
    rintro e w5 ⟨rfl, hb5⟩
    have hw5 := bth hw4 hb5
    have HO5 := Hd (HO4.out.below hb5)
    replace h0 := h0.below' hb5
    obtain ⟨T, hT⟩ : ∃ T, ofL (textN xn) = T := ⟨_, rfl⟩
    rw [Int.toNat_natCast, hT] at hls
    rw [hT] at hl0 ⊢
    have z1 : 7 + T.size <= 17 := by omega
    have z2 : 7 + T.size + 1 <= 18 := by omega
    have z3 : 7 + T.size + 1 + ts.size <= 1400000003018 := by omega
    have z4 : ¬ 9223372036854775807 < 7 + T.size := by omega
    have z5 : ¬ 9223372036854775807 < 7 + T.size + 1 := by omega
    have z6 : ¬ 9223372036854775807 < 7 + T.size + 1 + ts.size := by omega
    have hln := Hd (lnsF_len names F P (pn : Int) k)
    clear CI HO4 hb5 hT
    have HLE : Hid ((lnsF names F P (pn : Int) k ++ [⟨#[102, 97, 99, 116, 111, 114, 32]⟩ ++ T ++ ⟨#[32]⟩ ++ ts]).length <= 16777216) := Hd (by rw [List.length_append, hln.out]; simp; omega)
    go_wp2_with (at_builtin; go_must (refine append_str rfl (.tmp 40) (.tmp 51) rfl a2 c2 rfl (HO5.out.alloc _) (⟨#[102, 97, 99, 116, 111, 114, 32]⟩ ++ T ++ ⟨#[32]⟩ ++ ts) w5.heap.size 1 rfl (by simp) (lnsF names F P (pn : Int) k ++ [⟨#[102, 97, 99, 116, 111, 114, 32]⟩ ++ T ++ ⟨#[32]⟩ ++ ts]) rfl HLE.out (by have := h0.lt; simp; omega) ?_); intro a3 c3 w6 ho3 hg3 hx3)
    have hw6 := below_append' (hw5.alloc hw5.size _) ((HO5.out.alloc _).base (Nat.le_succ _)) hg3
    have h6 := (h0.alloc (.cells #[.string (⟨#[102, 97, 99, 116, 111, 114, 32]⟩ ++ T ++ ⟨#[32]⟩ ++ ts)] 9)).under HO5.out (Nat.lt_succ_self _) hg3
    rw [<- hls.out] at ho3
    replace ho3 := Hd ho3
    clear hx3 hg3 HO5 h0 hw5
    go_roundg (gk - 1)
    case rel => exact ⟨k + 1, a3, c3, by have := hk.out; show _ = _; omega, by go_num, by rw [hls.out, List.length_append]; rfl, ho3.out, h6, HE, hw6⟩
    case measure => have := hk.out; omega
   ·
    have hne : (te != 0) = true := by simpa using he
    have HE : errL names F ≠ 0 := by rw [hel.out, if_neg he]; exact he
    have hfin := Hd (show R = (⟨#[]⟩, te) by rw [<- hR, if_neg HE, hel.out, if_neg he])
    clear hR HE he hel
    go_wp2
    go_ret2
    exact ⟨by rw [hfin.out]; rfl, hw4⟩
  ·
   have hkl : k = F.length := by have := hk.out; omega
   subst hkl
   rw [errL_end] at her
   rw [if_pos her.out] at hR
   obtain ⟨w3, rfl⟩ : ∃ W, W = wr := ⟨_, rfl⟩
   have x3 := h0.cell 3
   have HE0 := Hd (lnsC_zero names F C P (pn : Int))
   clear hk her
   go_wp2
   go_loopg [6, 12, 13, 14, 57, 61] C.length (fun g s6 _ _ _ s57 _ wr => ∃ (k : Nat) (a2 : Option Addr) (c2 : Nat), Hid (k + g = C.length) /\ s57 = .int .i64 k /\ s6 = .slice a2 (lnsC names F C P (pn : Int) k).length c2 /\ OwnS w.heap.size wr a2 c2 (lnsC names F C P (pn : Int) k) /\ Hid (errL names C = errL names (C.drop k)) /\ Below w.heap.size w wr)
   case atStart => exact ⟨0, a2, c2, by show _ = _; omega, rfl, by rw [HE0.out], by rw [HE0.out]; exact HO.out.base (Nat.le_succ _), rfl, hwr⟩
   case round =>
    clear HO h0 x3 hwr
    obtain ⟨k, a2, c2, hk, rfl, rfl, hO, her, hwr⟩ := hrel
    have HO := Hd hO
    clear hO
    by_cases hlt : k < C.length
    ·
     obtain ⟨p, hp⟩ := get_of_lt hlt
     have hpm := List.mem_of_getElem? hp
     obtain ⟨bf, of, rfl, ap, cp, hcf, hPR⟩ := (HC.out wr hwr).2.2 k p hp
     simp only [Nat.mul_one] at hcf
     have CP := printS_any p names ap na cp nc wr hPR (FC.out.small p hpm) (FC.out.few p hpm) (HN.out wr hwr) hnl HNZ.out (HT.out wr hwr)
     have hps := FC.out.size HNZ.out hpm
     have hel := errL_at (names := names) hp
     have hls := lnsC_succ (names := names) (F := F) (P := P) (n := (pn : Int)) hp
     unfold lnC at hls
     obtain ⟨pr, hpr⟩ : ∃ r, printP p names = r := ⟨_, rfl⟩
     rw [hpr] at CP hps hel hls
     obtain ⟨ts, te⟩ := pr
     dsimp only at CP hps hel hls
     replace CP := Hd CP; replace hel := Hd (her.out.trans hel); replace hls := Hd hls
     clear hpr hp hPR hpm her
     go_wp2_with fail
     refine CP.out.mono ?_
     rintro e w4 ⟨rfl, hb4⟩
     have hw4 := bth hwr hb4
     have HO4 := Hd (HO.out.below hb4)
     clear CP HO hcf
     by_cases he : te = 0
     ·
      subst he
      have hne : ((0 : Int) != 0) = false := rfl
      have HE := Hd (show errL names C = errL names (C.drop (k + 1)) from hel.out.trans (if_pos rfl))
      have z1 : 9 + ts.size <= 1400000003018 := by omega
      have z2 : ¬ 9223372036854775807 < 9 + ts.size := by omega
      have hln := Hd (lnsC_len names F C P (pn : Int) k)
      have HLE : Hid ((lnsC names F C P (pn : Int) k ++ [⟨#[99, 111, 102, 97, 99, 116, 111, 114, 32]⟩ ++ ts]).length <= 16777216) := Hd (by rw [List.length_append, hln.out]; simp; omega)
      clear hel
      go_wp2_with (at_builtin; go_must (refine append_str rfl (.tmp 70) (.tmp 73) rfl a2 c2 rfl (HO4.out.alloc _) (⟨#[99, 111, 102, 97, 99, 116, 111, 114, 32]⟩ ++ ts) w4.heap.size 1 rfl (by simp) (lnsC names F C P (pn : Int) k ++ [⟨#[99, 111, 102, 97, 99, 116, 111, 114, 32]⟩ ++ ts]) rfl HLE.out (by have := hw4.size; simp; omega) ?_); intro a3 c3 w6 ho3 hg3 hx3)
      have hw6 := below_append' (hw4.alloc hw4.size _) (HO4.out.alloc _) hg3
      rw [<- hls.out] at ho3
      replace ho3 := Hd ho3
      clear hx3 hg3 HO4 hw4
      go_roundg (gk - 1)
      case rel => exact ⟨k + 1, a3, c3, by have := hk.out; show _ = _; omega, by go_num, by rw [hls.out, List.length_append]; rfl, ho3.out, HE, hw6⟩
      case measure => have := hk.out; omega
     ·
      have hne : (te != 0) = true := by simpa using he
      have HE : errL names C ≠ 0 := by rw [hel.out, if_neg he]; exact he
      have hfin := Hd (show R = (⟨#[]⟩, te) by rw [<- hR, if_neg HE, hel.out, if_neg he])
      clear hR HE he hel
      go_wp2
      go_ret2
      exact ⟨by rw [hfin.out]; rfl, hw4⟩
    ·
     have hkl : k = C.length := by have := hk.out; omega
     subst hkl
     rw [errL_end] at her
     rw [if_pos her.out] at hR
     have hsh := lnsC_short (names := names) (F := F) (C := C) (P := P) (n := (pn : Int)) HMF.out HMC.out (fun x hx => (HPX.out x hx).2) hPF.out (by omega) C.length (nlr _)
     have hcs := catL_size hsh
     have hln := lnsC_len names F C P (pn : Int) C.length
     have hcj := catL_join (lnsC names F C P (pn : Int) C.length) (by intro e; rw [e] at hln; simp at hln; omega)
     have hcz : (catL (lnsC names F C P (pn : Int) C.length)).size <= 140737488355000 := Nat.le_trans hcs (by rw [hln]; exact HMZ.out)
     rw [<- hcj, ByteArray.size_append] at hcz
     have CJ := Hd (join_any (lnsC names F C P (pn : Int) C.length) nlB a2 c2 wr HO.out.reads1 (by omega) (by omega))
     obtain ⟨J, hJ⟩ : ∃ J, joinB (lnsC names F C P (pn : Int) C.length) nlB = J := ⟨_, rfl⟩
     rw [hJ] at CJ hcj hcz
     have z1 : J.size + 5 <= 140737488355005 := by omega
     have z2 : ¬ 9223372036854775807 < J.size + 5 := by omega
     have hfin := Hd (show R = (J ++ ⟨#[10, 101, 110, 100, 10]⟩, 0) by
      rw [<- hR, <- hcj, ba_assoc]; rfl)
     clear hR hcj hcz hcs hsh hln hJ her
     go_wp2_with fail
     refine CJ.out.mono ?_
     rintro e w4 ⟨rfl, hb4⟩
     have hw4 := bth hwr hb4
     clear CJ
     go_wp2
     go_ret2
     exact ⟨by rw [hfin.out]; rfl, hw4⟩
end Go.Proofs.YtkjnkpkagcboeaaGreatDoor
namespace Go.Proofs.YtkjnkpkagcboeaaGreatDoor
open Go.ChangeShapes Go.WideShapes Go.ChangeAt Go.RowKit
section
variable {H : Type} {enc : TypeId × Value -> H} {W : World} {sp : Nat -> Bool} {held : Bool}
theorem open_strsa {r : Reach} {b0 : Nat} {v : Value} {d : DataW H} {p : List MemPlace} (hv : Value.okWide Tryz.prog W r b0 24 v) (h : DataW.Trod enc Tryz.prog W 0 sp held 24 v d p) :
  ∃ (l : List ByteArray) (a : Option Addr) (c : Nat), v = .slice a l.length c /\ StrsR W a c l /\ (l.map fun s => s.size + 1).sum + 1 <= Rows.uptoBulk d := by
 obtain ⟨n, hn⟩ := h
 obtain ⟨a, c, zs, h1, h2, h3⟩ := open_strsl hn
 obtain ⟨a', l', c', rfl⟩ := okWide_slice Tryz.underlying24 hv
 refine ⟨zs, a, c, ?_, h2, h3⟩
 simpa [Value.cells] using h1
end
theorem sum_mem {l : List ByteArray} {m : Nat} (h : (l.map fun s => s.size + 1).sum <= m) : ∀ s ∈ l, s.size <= m := by
 induction l generalizing m with
 | nil => intro s hs; cases hs
 | cons x r ih =>
  intro s hs
  rw [List.map_cons, List.sum_cons] at h
  rcases List.mem_cons.1 hs with rfl | hs
  · omega
  · exact Nat.le_trans (ih (nlr _) s hs) (by omega)
end Go.Proofs.YtkjnkpkagcboeaaGreatDoor
namespace Go.Proofs.YtkjnkpkagcboeaaGreatDoor
open Go.RowKit
end Go.Proofs.YtkjnkpkagcboeaaGreatDoor
