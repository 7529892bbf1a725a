/- Walks: a free point (the program's coordinates). -/
import Derived.Test.YtdnblkklgdnapaaGreatRc19
import Derived.Test.YtdnblkklgdnapaaGreatRc17
set_option linter.all false
set_option maxRecDepth 100000
set_option maxHeartbeats 4000000
namespace Go.Proofs.YtdnblkklgdnapaaGreat
open Go.RowKit
theorem negR_p (X : Nat -> Prop) (p : List Tm) (a : Option Addr) (ca : Nat) (w : World) (hX : ∀ b, X b -> b < w.heap.size) (hp : PolX X w a ca p) (fp : FineP p) :
  Calls Tryz.prog 170 #[.slice a p.length ca] w (RetP X (negP p) w) := by
 have CT := fun x W (hW : Below w.heap.size w W) hx => scaleR_p X p x (-1) a ca W (fun b hb => ltl (hX b hb) hW.size) (hp.call hW) fp hx (Nat.le_trans qsz_neg1 (by omega)) (by decide)
 have hXl := Hd hX
 replace CT := Hd CT
 unfold negP
 revert CT
 generalize scaleP p (-1) = res
 intro CT
 clear hX hp fp
 go_enter Tryz.func170, Tryz.ntmps170
 go_wp2_with fail
 refine (neg1R_q w).mono ?_
 rintro e w1 ⟨x, rfl, HK, hb1⟩
 go_wp2_with fail
 refine (CT.out x w1 hb1 (Rd.kp (HK.imp fun V h => h.1) fun b hb => .inl (hXl.out b hb))).mono ?_
 rintro e w2 ⟨a2, c2, rfl, hP, hb2⟩
 clear HK
 go_wp2
 go_ret
 exact ⟨a2, c2, rfl, hP, bth hb1 hb2⟩
theorem subR_p (X : Nat -> Prop) (p q : List Tm) (a b : Option Addr) (ca cb : Nat) (w : World) (hX : ∀ b, X b -> b < w.heap.size) (hp : PolX X w a ca p) (hq : PolX X w b cb q) (fp : FineP p) (fq : FineP q) :
  Calls Tryz.prog 151 #[.slice a p.length ca, .slice b q.length cb] w (RetP X (subP p q) w) := by
 have C1 := negR_p X q b cb w hX hq fq
 have C2 := fun b' cb' W (hW : Below w.heap.size w W) h => addR_p X p (negP q) a b' ca cb' W (fun b hb => ltl (hX b hb) hW.size) (hp.call hW) h fp (fine_neg fq)
 unfold subP
 revert C1 C2
 generalize negP q = nq
 generalize addP p nq = res
 intro C1 C2
 replace C1 := Hd C1; replace C2 := Hd C2
 clear hX hp hq fp fq
 go_enter Tryz.func151, Tryz.ntmps151
 go_wp2_with fail
 refine C1.out.mono ?_
 rintro e w1 ⟨a1, c1, rfl, hP1, hb1⟩
 replace hP1 := Hd hP1
 go_wp2_with fail
 refine (C2.out a1 c1 w1 hb1 hP1.out).mono ?_
 rintro e w2 ⟨a2, c2, rfl, hP, hb2⟩
 go_wp2
 go_ret
 exact ⟨a2, c2, rfl, hP, bth hb1 hb2⟩
theorem mulP_take {p q : List Tm} {k : Nat} {t : Tm} (h : q[k]? = some t) : mulP p (q.take (k + 1)) = addP (mulP p (q.take k)) (timesP p t) := by
 unfold mulP
 rw [take_more h, List.foldl_append, List.foldl_cons, List.foldl_nil]
theorem mulR_p (X : Nat -> Prop) (p q : List Tm) (a b : Option Addr) (ca cb : Nat) (w : World) (hX : ∀ b, X b -> b < w.heap.size) (hp : PolX X w a ca p) (hq : PolX X w b cb q) (fp : FineP p) (fq : FineP q) (f1 : ∀ k, FineP (mulP p (q.take k))) (f2 : ∀ t ∈ q, FineP (timesP p t)) :
  Calls Tryz.prog 150 #[.slice a p.length ca, .slice b q.length cb] w (RetP X (mulP p q) w) := by
 have lq := hq.len
 have l1 := fq.1
 have HP := Hd hp; have HQ := Hd hq; have FP := Hd fp; have FQ := Hd fq.2; have HX := Hd hX; have F1 := Hd f1; have F2 := Hd f2
 clear hp hq fp fq hX f1 f2
 go_enter Tryz.func150, Tryz.ntmps150
 go_wp2
 obtain ⟨wo, rfl⟩ : ∃ wo : World, wo = w := ⟨_, rfl⟩
 go_loopg [5, 6] q.length (fun n o qi wr => ∃ (k : Nat) (a2 : Option Addr) (c2 : Nat) (r : List Tm), Hid (k + n = q.length) /\ o = .slice a2 r.length c2 /\ qi = .int .i64 k /\ Hid (PolX X wr a2 c2 r) /\ Hid (r = mulP p (q.take k)) /\ Below wo.heap.size wo wr)
 case atStart => exact ⟨0, none, 0, [], by show _ = _; omega, rfl, rfl, PolX.nil, rfl, Below.refl _ _⟩
 case round =>
  obtain ⟨k, a2, c2, r, hm, rfl, rfl, hr, hrr, hwr⟩ := hrel
  by_cases hk : k < q.length
  ·
   obtain ⟨t, ht⟩ := get_of_lt hk
   obtain ⟨b1, o1, s, rfl, hs, hsR⟩ := HQ.out.get ht
   have hnx := mulP_take (p := p) ht
   rw [<- hrr.out] at hnx
   have hXr := fun W (hW : Below wr.heap.size wr W) => (fun b hb => ltl (HX.out b hb) (bth hwr hW).size : ∀ b, X b -> b < W.heap.size)
   have CT := timesR_p X p t.1 t.2 s a ca wr (hXr wr brf) (HP.out.call hwr) FP.out (hsR.call hwr) (FQ.out t (List.mem_of_getElem? ht))
   have CA := fun a3 c3 W (hW : Below wr.heap.size wr W) h3 => addR_p X r (timesP p t) a2 a3 c2 c3 W (hXr W hW) (hr.out.call hW) h3 (by rw [hrr.out]; exact F1.out k) (F2.out t (List.mem_of_getElem? ht))
   rw [show (t.1, t.2) = t from rfl] at CT
   obtain ⟨res, hres⟩ : ∃ res, timesP p t = res := ⟨_, rfl⟩
   rw [hres] at CT CA hnx
   obtain ⟨c0, c1, c2', c3'⟩ := hs
   have k0 := held c0 wr hwr; have k1 := held c1 wr hwr; have k2 := held c2' wr hwr; have k3 := held c3' wr hwr
   replace CT := Hd CT; replace CA := Hd CA; replace hnx := Hd hnx; replace hsR := Hd hsR
   clear ht c0 c1 c2' c3' hres hXr
   go_wp2_with fail
   refine CT.out.mono ?_
   rintro e w1 ⟨a3, c3, rfl, hP3, hb1⟩
   replace hP3 := Hd hP3
   go_wp2_with fail
   refine (CA.out a3 c3 w1 hb1 hP3.out).mono ?_
   rintro e w2 ⟨a4, c4, rfl, hP4, hb2⟩
   have hw2 := bth hwr (bth hb1 hb2)
   replace hP4 := Hd hP4
   clear k0 k1 k2 k3
   go_wp2
   go_roundg (gk - 1)
   case rel => exact ⟨k + 1, a4, c4, _, by have := hm.out; show _ = _; omega, rfl, by go_num, hP4.out, hnx.out.symm, hw2⟩
   case measure => have := hm.out; omega
  ·
   have hkq : k = q.length := by have := hm.out; omega
   obtain rfl : r = mulP p q := by rw [hrr.out, hkq, List.take_length]
   clear hrr hkq
   go_wp2
   go_ret
   exact ⟨a2, c2, rfl, hr.out, hwr⟩
theorem normR_h (x : QA) (q : Rat) (w : World) (H : QK 1000 w x q) : Calls Tryz.prog 49 #[.agg #[.bool x.neg, .slice x.a x.n x.c, .slice x.b x.m x.d]] w (RetQK 1000 q w) := by
 obtain ⟨s1, n1, a1, c1, m1, b1, d1⟩ := x
 obtain ⟨⟨e1, e2, e3, r1, r2⟩, z1⟩ := H
 dsimp only at e1 e2 e3 r1 r2 ⊢
 subst e1 e2 e3
 have l1 := qsz_num q
 have l2 := qsz_den q
 have := qnormR_any (decide (q.num < 0)) (limbs q.num.natAbs) (limbs q.den) q.num.natAbs q.den a1 b1 c1 d1 w r1 r2 (val_limbs _) (val_limbs _) (by omega) (by omega)
 rw [lowest_qv, qv_parts] at this
 exact this.mono fun _ _ h => retF_q z1 h
theorem slice_none_h (w : World) : (Instr.slice 76 (.slice none 0 0) none (some (.int .i64 0)) none).run Tryz.prog w = .ok (.slice none 0 0) w := by
 have hu := Tryz.underlying76
 have he : Tryz.prog.elem 76 = 136 := by unfold Program.elem; rw [hu]
 obtain ⟨d, hd, hz, hsz, hby⟩ := info_parts infoTm
 have := run_slice_h (P := Tryz.prog) (w := w) 76 none 0 0 (by rw [hu, he]) .i64 0 (by omega) (by omega)
 rw [this, he]
 simp [sizeOf, typeInfo, hd, hsz, sliced]
theorem slice_none_l (w : World) : (Instr.slice 76 (.slice none 0 0) (some (.int .i64 0)) none none).run Tryz.prog w = .ok (.slice none 0 0) w := by
 have := slice_tm 76 Tryz.underlying76 none 0 0 0 (by omega) w
 exact this
theorem append_no {w : World} {ops : Array Oper} {rest : List Oper} {o : Oper} {act : Act} {Q : Exit -> Act -> World -> Prop} (hgd : o.guard = none) (s y : Operand) (ts : TypeId)
  (ho : o.op = .call { callee := .builtin .append, args := #[s, y], argTypes := #[ts, ts] }) (hu : Tryz.prog.underlying ts = some (.slice 136))
  (a : Option Addr) (n c : Nat) (hnc : n <= c) (hs : act.eval s = .slice a n c) (b : Option Addr) (c1 : Nat) (hy : act.eval y = .slice b 0 c1)
  (h : wpList Tryz.prog ops Q rest (act.put o.dst (.slice a n c)) w) : wpList Tryz.prog ops Q (o :: rest) act w := by
 obtain ⟨i, hi, _⟩ := info_parts infoTm
 exact wpList_plain hgd fun _ hK => wp_append_0 s y ts ho hu hi a n c hnc hs b c1 hy (hK _ _ h)
def constT (q : Rat) (m : List Int) : List Tm := if q = 0 then [] else [(q, m)]
theorem addN_p (X : Nat -> Prop) (x : QA) (q : Rat) (m : List Int) (a : Option Addr) (ca : Nat) (w : World) (hX : ∀ b, X b -> b < w.heap.size) (hx : Rd X w fun V => QAc V x q) (hq : qsz q <= 1000) (hm : Rd X w fun V => IntsR V a ca m) :
  Calls Tryz.prog 152 #[.slice none 0 0, .agg #[.bool x.neg, .slice x.a x.n x.c, .slice x.b x.m x.d], .slice a m.length ca] w (RetP X (constT q m) w) := by
 have CS := fun W (hW : Below w.heap.size w W) => signR_q x q 1000 W ⟨(hx.call hW).now, hq⟩ (by omega)
 have CN := fun W (hW : Below w.heap.size w W) => normR_h x q W ⟨(hx.call hW).now, hq⟩
 have hsg := sgnQ_ne q
 obtain ⟨S0, hS0⟩ : ∃ S0, sgnQ q = S0 := ⟨_, rfl⟩
 rw [hS0] at CS hsg
 have hs1 := slice_none_h; have hs2 := slice_none_l
 have HX := Hd hX; have HM := Hd hm
 replace CS := Hd CS; replace CN := Hd CN
 clear hX hx hS0 hq hm
 by_cases h0 : q = 0
 ·
  have e : constT q m = [] := by unfold constT; rw [if_pos h0]
  rw [e]
  rw [decide_eq_true h0] at hsg
  clear h0 e CN
  go_enter Tryz.func152, Tryz.ntmps152
  go_wp2
  refine world_gen (fun W => Blk W w.heap.size 32 #[.bool x.neg, .slice x.a x.n x.c, .slice x.b x.m x.d] /\ Below w.heap.size w W) ⟨by ((with_reducible repeat first|assumption|(apply bF;focus omega)|apply bS|(apply bN;focus (simp;done))|apply bA|apply bD);all_goals rfl), by go_grown⟩ ?_
  rintro w0 ⟨hz, hw0⟩
  refine wp_loop_rounds 1 ?_
  rw [rounds_succ]
  have z0 := hz.cell 0; have z1 := hz.cell 1; have z2 := hz.cell 2
  go_wp2_with (at_builtin; go_must (refine append_no rfl (.tmp 68) (.tmp 71) 76 rfl Tryz.underlying76 none 0 0 (nlr _) rfl none 0 rfl ?_))
  refine (CS.out w0 hw0).mono ?_
  rintro e w1 ⟨rfl, hb1⟩
  have hw1 := bth hw0 hb1
  go_wp2_with (at_builtin; go_must (refine append_no rfl (.tmp 83) (.tmp 86) 76 rfl Tryz.underlying76 none 0 0 (nlr _) rfl none 0 rfl ?_))
  go_ret
  exact ⟨none, 0, rfl, PolX.nil, hw1⟩
 ·
  have e : constT q m = [(q, m)] := by unfold constT; rw [if_neg h0]
  rw [e]
  rw [decide_eq_false h0] at hsg
  clear h0 e
  go_enter Tryz.func152, Tryz.ntmps152
  go_wp2
  refine world_gen (fun W => Blk W w.heap.size 32 #[.bool x.neg, .slice x.a x.n x.c, .slice x.b x.m x.d] /\ Below w.heap.size w W) ⟨by ((with_reducible repeat first|assumption|(apply bF;focus omega)|apply bS|(apply bN;focus (simp;done))|apply bA|apply bD);all_goals rfl), by go_grown⟩ ?_
  rintro w0 ⟨hz, hw0⟩
  refine wp_loop_rounds 1 ?_
  rw [rounds_succ]
  have z0 := hz.cell 0; have z1 := hz.cell 1; have z2 := hz.cell 2
  go_wp2_with (at_builtin; go_must (refine append_no rfl (.tmp 68) (.tmp 71) 76 rfl Tryz.underlying76 none 0 0 (nlr _) rfl none 0 rfl ?_))
  refine (CS.out w0 hw0).mono ?_
  rintro e w1 ⟨rfl, hb1⟩
  have hw1 := bth hw0 hb1
  replace hz := hz.below' hb1
  clear z0 z1 z2
  have z0 := hz.cell 0; have z1 := hz.cell 1; have z2 := hz.cell 2
  go_wp2_with fail
  refine (CN.out w1 hw1).mono ?_
  rintro e w2 ⟨x2, rfl, HK, hb2⟩
  have hw2 := bth hw1 hb2
  obtain ⟨sn, hsn⟩ : ∃ sn : TQ, sn = ⟨x2, m.length, a, ca⟩ := ⟨_, rfl⟩
  have ex : x2 = sn.x := by rw [hsn]
  have e5 : m.length = sn.n := by rw [hsn]
  have e6 : a = sn.a := by rw [hsn]
  have e7 : ca = sn.c := by rw [hsn]
  have hRS : Rd X w2 (sn.R (q, m)) := by
   rw [hsn]
   exact ((Rd.kp HK fun b hb => .inl (ltl (HX.out b hb) hw1.size)).and (HM.out.call hw2)).imp fun V h => ⟨h.1.1, h.2, rfl⟩
  have hel : sn.At (w2.alloc (.cells #[.bool sn.x.neg, .slice sn.x.a sn.x.n sn.x.c, .slice sn.x.b sn.x.m sn.x.d, .slice sn.a sn.n sn.c] 136)) w2.heap.size 0 := At.new
  replace ex := Hd ex; replace e5 := Hd e5; replace e6 := Hd e6; replace e7 := Hd e7; replace hRS := Hd hRS; replace hel := Hd hel; replace hsn := Hd hsn
  rw [ex.out, e5.out, e6.out, e7.out]
  clear HK z0 z1 z2 hz
  go_wp2_with (first
   | (at_builtin
      refine append_tm (B := w.heap.size) rfl (.tmp 76) (.tmp 81) 76 rfl Tryz.underlying76 none 0 (l := []) rfl Own.nil sn w2.heap.size 1 rfl hel.out [sn] rfl (by simp) (by have := hw2.size; simp; omega) ?_
      intro ra2 rc2 w6 ho6 hg6 ha6)
   | (at_builtin
      go_must (refine append_no rfl (.tmp 83) (.tmp 86) 76 rfl Tryz.underlying76 ra2 1 rc2 (by have := ho6.cap.1; simpa using this) rfl none 0 rfl ?_)))
  have hA6 := push_tm (ra := none) (lo := []) (po := []) (wr := w2) AllT.nil brf (brf.alloc (nlr _) (.cells #[.bool sn.x.neg, .slice sn.x.a sn.x.n sn.x.c, .slice sn.x.b sn.x.m sn.x.d, .slice sn.a sn.n sn.c] 136)) ((hRS.out.row (fun g hg => by cases hg)).alloc _) hg6 ha6
  have hP := OwnT.pol ho6 hA6 HX.out
  have hw6 : Below w.heap.size w w6 := below_append (hw2.alloc hw2.size (.cells #[.bool sn.x.neg, .slice sn.x.a sn.x.n sn.x.c, .slice sn.x.b sn.x.m sn.x.d, .slice sn.a sn.n sn.c] 136)) hg6 (fun g hg => by cases hg)
  go_ret
  exact ⟨ra2, rc2, rfl, hP, hw6⟩
theorem constR_p (X : Nat -> Prop) (x : QA) (q : Rat) (w : World) (hX : ∀ b, X b -> b < w.heap.size) (hx : Rd X w fun V => QAc V x q) (hq : qsz q <= 1000) :
  Calls Tryz.prog 123 #[.agg #[.bool x.neg, .slice x.a x.n x.c, .slice x.b x.m x.d]] w (RetP X (constP q) w) := by
 have C1 := fun W (hW : Below w.heap.size w W) => addN_p X x q [] none 0 W (fun b hb => ltl (hX b hb) hW.size) (hx.call hW) hq (fun _ _ => SlR.nil)
 rw [show constT q [] = constP q from rfl] at C1
 revert C1
 generalize constP q = res
 intro C1
 replace C1 := Hd C1
 clear hX hx hq
 go_enter Tryz.func123, Tryz.ntmps123
 go_wp2_with fail
 refine calls_gen (fun W => Below w.heap.size w W) (by go_grown) ?_
 intro w0 hw0
 refine (C1.out w0 hw0).mono ?_
 rintro e w1 ⟨a1, c1, rfl, hP, hb⟩
 replace hP := Hd hP
 go_wp2
 go_ret
 exact ⟨a1, c1, rfl, hP.out, bth hw0 hb⟩
theorem addOne_p (X : Nat -> Prop) (x : QA) (m : List Int) (a : Option Addr) (ca : Nat) (w : World) (hX : ∀ b, X b -> b < w.heap.size) (hx : Rd X w fun V => QAc V x 1) (hm : Rd X w fun V => IntsR V a ca m) :
  Calls Tryz.prog 152 #[.slice none 0 0, .agg #[.bool x.neg, .slice x.a x.n x.c, .slice x.b x.m x.d], .slice a m.length ca] w (RetP X [(1, m)] w) := by
 have := addN_p X x 1 m a ca w hX hx (Nat.le_trans qsz_pos1 (by omega)) hm
 rwa [show constT 1 m = [(1, m)] from if_neg (by decide)] at this
theorem varR_p (X : Nat -> Prop) (n : Nat) (w : World) (hX : ∀ b, X b -> b < w.heap.size) (hn63 : n <= 1000000) : Calls Tryz.prog 153 #[.int .i64 n] w (RetP X (varP n) w) := by
 by_cases hn : n < 64
 ·
  have hmk := mk_ints 134 Tryz.underlying134 (n + 1) (by omega) w
  rw [show ((n + 1 : Nat) : Int) = (n : Int) + 1 by omega] at hmk
  have e : varP n = [(1, List.replicate n 0 ++ [1])] := by unfold varP; rw [if_pos hn]
  rw [e]
  have hr0 : RowZ (w.alloc (.cells (((List.replicate (n + 1) (0 : Int)).map (Value.int .i64)).toArray) 3)) w.heap.size (List.replicate (n + 1) 0) := Blk.new w _ _
  have c0 := hr0.cell (show (List.replicate (n + 1) (0 : Int))[n]? = some 0 by simp)
  have f0 := hr0.frozen n
  have HX := Hd hX
  clear hX hr0 e
  go_enter Tryz.func153, Tryz.ntmps153
  go_wp2_with fail
  refine calls_gen (fun W => RowZ W w.heap.size (List.replicate n 0 ++ [1]) /\ Below w.heap.size w W) ⟨by unfold RowZ; rw [<- var_arr]; exact Blk.new w _ _, by go_grown⟩ ?_
  clear c0 f0 hmk
  rintro w1 ⟨hR, hw1⟩
  refine (pos1R_q w1).mono ?_
  rintro e w2 ⟨x, rfl, HK, hb2⟩
  have hw2 := bth hw1 hb2
  have hm := (hR.below hb2).reads (var_int n) (by simp; unfold maxLen; omega) (B := w.heap.size) (T := w.heap.size + 1) (nlr _) (Nat.lt_succ_self _)
  have hln : (List.replicate n (0 : Int) ++ [1]).length = n + 1 := by simp
  rw [hln] at hm
  have C1 := addOne_p X x (List.replicate n 0 ++ [1]) (some ⟨w.heap.size, 0, none⟩) (n + 1) w2 (fun b hb => by have := HX.out b hb; have := hw2.size; omega) (Rd.kp (HK.imp fun V h => h.1) fun b hb => by have := HX.out b hb; have := hw1.size; omega) (Rd.kp hm fun b hb => by have := HX.out b hb; omega)
  rw [hln] at C1
  replace C1 := Hd C1
  clear HK hm hln hR hw1
  go_wp2_with fail
  refine C1.out.mono ?_
  rintro e w3 ⟨a3, c3, rfl, hP, hb3⟩
  go_wp2
  go_ret
  exact ⟨a3, c3, rfl, hP, bth hw2 hb3⟩
 ·
  have e : varP n = [] := by unfold varP; rw [if_neg hn]
  rw [e]
  clear hX e
  have hge : (64 : Int) <= n := by omega
  go_enter Tryz.func153, Tryz.ntmps153
  go_wp2
  go_ret
  exact ⟨none, 0, rfl, PolX.nil, Below.refl _ _⟩
theorem plusR_v (X : Nat -> Prop) (p q r : List Tm) (a b c : Option Addr) (ca cb cc : Nat) (w : World) (hX : ∀ b, X b -> b < w.heap.size) (hp : PolX X w a ca p) (hq : PolX X w b cb q) (hr : PolX X w c cc r) (fp : FineP p) (fq : FineP q) (fr : FineP r) (fd : FineP (subP q r)) :
  Calls Tryz.prog 124 #[.slice a p.length ca, .slice b q.length cb, .slice c r.length cc] w (RetP X (addP p (subP q r)) w) := by
 have C1 := subR_p X q r b c cb cc w hX hq hr fq fr
 have C2 := fun b' cb' W (hW : Below w.heap.size w W) h => addR_p X p (subP q r) a b' ca cb' W (fun b hb => ltl (hX b hb) hW.size) (hp.call hW) h fp fd
 revert C1 C2
 generalize subP q r = nq
 generalize addP p nq = res
 intro C1 C2
 replace C1 := Hd C1; replace C2 := Hd C2
 clear hX hp hq hr fp fq fr fd
 go_enter Tryz.func124, Tryz.ntmps124
 go_wp2_with fail
 refine C1.out.mono ?_
 rintro e w1 ⟨a1, c1, rfl, hP1, hb1⟩
 replace hP1 := Hd hP1
 go_wp2_with fail
 refine (C2.out a1 c1 w1 hb1 hP1.out).mono ?_
 rintro e w2 ⟨a2, c2, rfl, hP, hb2⟩
 go_wp2
 go_ret
 exact ⟨a2, c2, rfl, hP, bth hb1 hb2⟩
theorem alongR_v (X : Nat -> Prop) (u v : Vec) (m : List Tm) (s t : VQ) (ma : Option Addr) (mc : Nat) (w : World) (hX : ∀ b, X b -> b < w.heap.size) (hu : VecX X w s u) (hv : VecX X w t v) (hm : PolX X w ma mc m) (fu : FineV u) (fv : FineV v) (fm : FineP m)
  (fd : FineV (subP v.1 u.1, subP v.2 u.2)) (f1 : ∀ k, FineP (mulP m ((subP v.1 u.1).take k))) (f2 : ∀ t ∈ subP v.1 u.1, FineP (timesP m t)) (f3 : ∀ k, FineP (mulP m ((subP v.2 u.2).take k))) (f4 : ∀ t ∈ subP v.2 u.2, FineP (timesP m t)) :
  Calls Tryz.prog 122 #[.agg #[.slice s.a u.1.length s.c, .slice s.b u.2.length s.d], .agg #[.slice t.a v.1.length t.c, .slice t.b v.2.length t.d], .slice ma m.length mc] w (RetVec X (addP u.1 (mulP m (subP v.1 u.1)), addP u.2 (mulP m (subP v.2 u.2))) w) := by
 have f5 := f1 (subP v.1 u.1).length
 have f6 := f3 (subP v.2 u.2).length
 rw [List.take_length] at f5 f6
 have A1 := fun (Y : Nat -> Prop) W (h1 : ∀ b, Y b -> X b \/ w.heap.size <= b) (h2 : ∀ b, Y b -> b < W.heap.size) (hW : Below w.heap.size w W) => subR_p Y v.1 u.1 t.a s.a t.c s.c W h2 ((hv.1.more h1).call hW) ((hu.1.more h1).call hW) fv.1 fu.1
 have A2 := fun (Y : Nat -> Prop) W (h1 : ∀ b, Y b -> X b \/ w.heap.size <= b) (h2 : ∀ b, Y b -> b < W.heap.size) (hW : Below w.heap.size w W) => subR_p Y v.2 u.2 t.b s.b t.d s.d W h2 ((hv.2.more h1).call hW) ((hu.2.more h1).call hW) fv.2 fu.2
 have M1 := fun (Y : Nat -> Prop) W a c (h1 : ∀ b, Y b -> X b \/ w.heap.size <= b) (h2 : ∀ b, Y b -> b < W.heap.size) (hW : Below w.heap.size w W) hd => mulR_p Y m (subP v.1 u.1) ma a mc c W h2 ((hm.more h1).call hW) hd fm fd.1 f1 f2
 have M2 := fun (Y : Nat -> Prop) W a c (h1 : ∀ b, Y b -> X b \/ w.heap.size <= b) (h2 : ∀ b, Y b -> b < W.heap.size) (hW : Below w.heap.size w W) hd => mulR_p Y m (subP v.2 u.2) ma a mc c W h2 ((hm.more h1).call hW) hd fm fd.2 f3 f4
 have B1 := fun (Y : Nat -> Prop) W a c (h1 : ∀ b, Y b -> X b \/ w.heap.size <= b) (h2 : ∀ b, Y b -> b < W.heap.size) (hW : Below w.heap.size w W) hd => addR_p Y u.1 (mulP m (subP v.1 u.1)) s.a a s.c c W h2 ((hu.1.more h1).call hW) hd fu.1 f5
 have B2 := fun (Y : Nat -> Prop) W a c (h1 : ∀ b, Y b -> X b \/ w.heap.size <= b) (h2 : ∀ b, Y b -> b < W.heap.size) (hW : Below w.heap.size w W) hd => addR_p Y u.2 (mulP m (subP v.2 u.2)) s.b a s.d c W h2 ((hu.2.more h1).call hW) hd fu.2 f6
 revert A1 A2 M1 M2 B1 B2
 clear hu hv hm fu fv fm fd f1 f2 f3 f4 f5 f6
 generalize subP v.1 u.1 = d1
 generalize subP v.2 u.2 = d2
 generalize mulP m d1 = p1
 generalize mulP m d2 = p2
 generalize addP u.1 p1 = r1
 generalize addP u.2 p2 = r2
 intro A1 A2 M1 M2 B1 B2
 replace A1 := Hd A1; replace A2 := Hd A2; replace M1 := Hd M1; replace M2 := Hd M2; replace B1 := Hd B1; replace B2 := Hd B2
 have HX := Hd hX
 clear hX
 go_enter Tryz.func122, Tryz.ntmps122
 go_wp2
 refine world_gen (fun W => Blk W w.heap.size 81 #[.slice s.a u.1.length s.c, .slice s.b u.2.length s.d] /\ Blk W (w.heap.size + 1) 81 #[.slice t.a v.1.length t.c, .slice t.b v.2.length t.d] /\ Blk W (w.heap.size + 1 + 1) 81 #[.slice none 0 0, .slice none 0 0] /\ Below w.heap.size w W) (by refine ⟨?_,?_,?_,?_⟩<;>first|((with_reducible repeat first|assumption|(apply bF;focus omega)|apply bS|(apply bN;focus (simp;done))|apply bA|apply bD);all_goals rfl)|go_grown) ?_
 rintro w0 ⟨hx, hy, hz, hw0⟩
 obtain ⟨g2, hg2⟩ : ∃ g, g = w.heap.size + 1 + 1 := ⟨_, rfl⟩
 rw [<- hg2] at hz ⊢
 have hgw : w.heap.size <= g2 := by omega
 have hgl := hz.lt
 have hY1 := Xg_new (X := X) hgw
 have hY2 := Xg_lt HX.out hw0.size hgl
 replace hg2 := Hd hg2; replace hY1 := Hd hY1; replace hY2 := Hd hY2
 have x0 := held (hx.cell 0); have x1 := held (hx.cell 1); have y0 := held (hy.cell 0); have y1 := held (hy.cell 1)
 have s0 : Below w0.heap.size w0 w0.drew := brf.drew
 clear hx hy
 refine wp_region_mix (S := Below w0.heap.size w0) [(0, .q), (1, .q), (2, .q), (3, .q), (4, .q), (5, .q), (6, .q), (10, .q), (11, .q), (12, .q), (13, .q), (14, .q), (15, .q), (16, .q), (7, .l), (8, .l), (9, .l), (17, .l), (18, .l), (19, .t), (20, .p), (21, .t)] (by kernel_rfl) (by kernel_rfl) (by kernel_rfl) (fun d _ _ _ _ h => by cases d <;> exact h) (s0) ?_
 iterate 14 (refine wpMix_q rfl rfl (fun K hK => ?_); apply Exists.intro; refine ⟨fun w' hw' => ?_, ?_⟩; (focus (go_simp; try rfl)); go_simp; refine hK _ _ ?_; clear hK K)
 refine wpMix_l rfl rfl (fun K hK => ?_)
 go_simp
 refine (A1.out (Xg X g2) w0.drew hY1.out hY2.out (bth hw0 s0)).mono ?_
 rintro r w1 ⟨a1, c1, rfl, hP1, hb1⟩
 dsimp only
 refine hK.out _ _ (bth s0 hb1) (fun _ => ?_)
 clear hK K
 have s1 := bth s0 hb1
 refine wpMix_l rfl rfl (fun K hK => ?_)
 go_simp
 refine (M1.out (Xg X g2) w1 a1 c1 hY1.out (fun b hb => ltl (hY2.out b hb) s1.size) (bth hw0 s1) hP1).mono ?_
 rintro r w2 ⟨a2, c2, rfl, hP2, hb2⟩
 dsimp only
 refine hK.out _ _ (bth s1 hb2) (fun _ => ?_)
 clear hK K
 have s2 := bth s1 hb2
 refine wpMix_l rfl rfl (fun K hK => ?_)
 go_simp
 refine (B1.out (Xg X g2) w2 a2 c2 hY1.out (fun b hb => ltl (hY2.out b hb) s2.size) (bth hw0 s2) hP2).mono ?_
 rintro r w3 ⟨a3, c3, rfl, hP3, hb3⟩
 dsimp only
 refine hK.out _ _ (bth s2 hb3) (fun _ => ?_)
 clear hK K
 have s3 := bth s2 hb3
 replace hP3 := Hd hP3
 clear hP1 hP2 hb1 hb2 hb3
 refine wpMix_l rfl rfl (fun K hK => ?_)
 go_simp
 refine (A2.out (Xg X g2) w3 hY1.out (fun b hb => ltl (hY2.out b hb) s3.size) (bth hw0 s3)).mono ?_
 rintro r w4 ⟨a4, c4, rfl, hP4, hb4⟩
 dsimp only
 refine hK.out _ _ (bth s3 hb4) (fun _ => ?_)
 clear hK K
 have s4 := bth s3 hb4
 refine wpMix_l rfl rfl (fun K hK => ?_)
 go_simp
 refine (M2.out (Xg X g2) w4 a4 c4 hY1.out (fun b hb => ltl (hY2.out b hb) s4.size) (bth hw0 s4) hP4).mono ?_
 rintro r w5 ⟨a5, c5, rfl, hP5, hb5⟩
 dsimp only
 refine hK.out _ _ (bth s4 hb5) (fun _ => ?_)
 clear hK K
 have s5 := bth s4 hb5
 have hP3' := Hd ((hP3.out.call hb4).call hb5)
 refine wpMix_t rfl rfl (fun K hK => ?_)
 go_simp
 refine (B2.out (Xg X g2) w5 a5 c5 hY1.out (fun b hb => ltl (hY2.out b hb) s5.size) (bth hw0 s5) hP5).mono ?_
 rintro r w6 ⟨a6, c6, rfl, hP6, hb6⟩
 dsimp only
 refine hK.out _ _ ?_
 clear hK K
 have s6 := bth s5 hb6
 have hz2 := hz.below' s6
 have z0 := hz2.cell 0; have z1 := hz2.cell 1; have f0 := hz2.frozen 0; have f1 := hz2.frozen 1
 have hP3'' := Hd (hP3'.out.call hb6)
 replace hP6 := Hd hP6
 clear hP4 hP5 hb4 hb5 hb6 hP3 hP3'
 iterate 1 (refine wpMix_p rfl rfl (fun K hK => ?_); apply Exists.intro; refine ⟨fun w' => ?_, ?_⟩; (focus (go_simp; try rfl)); go_simp; refine hK _ _ ?_; clear hK K)
 refine wpMix_t rfl rfl (fun K hK => ?_)
 go_simp
 refine hK.out _ _ ?_
 clear hK K
 refine wpMix_nil ?_
 have hw2 := bth hw0 s6
 clear z0 z1 f0 f1 s0 s1 s2 s3 s4 s5 s6
 go_wp2
 refine world_gen (fun W => Blk W g2 81 #[.slice a3 r1.length c3, .slice a6 r2.length c6] /\ PolX (Xg X g2) W a3 c3 r1 /\ PolX (Xg X g2) W a6 c6 r2 /\ Below w.heap.size w W) ⟨by ((with_reducible repeat first|assumption|(apply bF;focus omega)|apply bS|(apply bN;focus (simp;done))|apply bA|apply bD);all_goals rfl), ?_, ?_, (hw2.setCell hgw _).setCell hgw _⟩ ?_
 · exact hP3''.out.step (Agr.setc (.inr rfl) (Agr.setc (.inr rfl) (Agr.refl _ _)))
 · exact hP6.out.step (Agr.setc (.inr rfl) (Agr.setc (.inr rfl) (Agr.refl _ _)))
 rintro w7 ⟨hF, hQ1, hQ2, hw7⟩
 have e0 := hF.cell 0; have e1 := hF.cell 1
 refine bodyPost_ret (v := .agg #[.slice a3 r1.length c3, .slice a6 r2.length c6]) (by simp [results, Tryz.results122, go_sem, e0, e1]) rfl ?_
 exact ⟨⟨a3, c3, a6, c6⟩, rfl, ⟨hQ1.less fun b hb => .inl hb, hQ2.less fun b hb => .inl hb⟩, hw7⟩
def Yv (ra va : Option Addr) : Nat -> Prop := fun b => (∃ g : Addr, ra = some g /\ b = g.block) \/ (∃ g : Addr, va = some g /\ b = g.block)
def Yr (Z : Nat -> Prop) (ra va : Option Addr) : Nat -> Prop := fun b => Yv ra va b \/ Z b
def Zk (Z : Nat -> Prop) (g k : Nat) : Nat -> Prop := fun b => Z b \/ (g <= b /\ b < g + k)
structure Rst (Z : Nat -> Prop) (w : World) (B : Nat) (x : Frm) (hs : List (VQ × Vec)) (ra : Option Addr) (rc : Nat) (va : Option Addr) (vc : Nat) : Prop where
 eq : hs.map Prod.snd = x.coords
 co : OwnCo B w ra rc hs
 vr : OwnVr B w va vc x.vars
 all : AllV (Yr Z ra va) w hs
section
variable {Z Y : Nat -> Prop} {w w' w2 : World} {B : Nat} {x : Frm} {hs : List (VQ × Vec)} {ra va va' ra2 va2 : Option Addr} {rc vc rc2 vc2 : Nat}
theorem Rst.lt (h : Rst Z w B x hs ra rc va vc) : ∀ b, Yv ra va b -> b < w.heap.size := fun b hb => by
 rcases hb with ⟨g, hg, rfl⟩ | ⟨g, hg, rfl⟩
 · exact (h.co.lt hg).2
 · exact (h.vr.lt hg).2
theorem Rst.ge (h : Rst Z w B x hs ra rc va vc) : ∀ b, Yv ra va b -> B <= b := fun b hb => by
 rcases hb with ⟨g, hg, rfl⟩ | ⟨g, hg, rfl⟩
 · exact (h.co.lt hg).1
 · exact (h.vr.lt hg).1
theorem Rst.call (h : Rst Z w B x hs ra rc va vc) (e : Below w.heap.size w w') : Rst Z w' B x hs ra rc va vc := ⟨h.eq, h.co.below e, h.vr.below e, h.all.call e⟩
theorem Rst.more (h : Rst Z w B x hs ra rc va vc) (e : ∀ b, Y b -> Z b \/ w.heap.size <= b) : Rst Y w B x hs ra rc va vc := ⟨h.eq, h.co, h.vr, fun z hz => (h.all z hz).more fun b hb => by
 rcases hb with hb | hb
 · exact .inl (.inl hb)
 · exact (e b hb).imp .inr id⟩
theorem Rst.less (h : Rst Y w B x hs ra rc va vc) (e : ∀ b, Z b -> Y b) : Rst Z w B x hs ra rc va vc := ⟨h.eq, h.co, h.vr, fun z hz => (h.all z hz).less fun b hb => hb.imp id (e b)⟩
theorem Rst.set_ (h : Rst Z w B x hs ra rc va vc) {g i : Nat} {u : Value} (hg : Z g) (hn : ¬ Yv ra va g) : Rst Z (w.setCell ⟨g, i, none⟩ u) B x hs ra rc va vc := by
 have e : w.grownBy (w.setCell ⟨g, i, none⟩ u) (some g) := ⟨rfl, rfl, rfl, by simp [World.setCell], fun k _ hk => Below.heap_setCell _ _ _ _ (fun e => hk (by simp at e; rw [e]))⟩
 refine ⟨h.eq, h.co.grown e fun p hp e => ?_, h.vr.grown e fun p hp e => ?_, fun z hz => ?_⟩
 · injection e with e; exact hn (.inl ⟨p, hp, e⟩)
 · injection e with e; exact hn (.inr ⟨p, hp, e⟩)
 · exact (h.all z hz).step (Agr.setc (.inr hg) (Agr.refl _ _))
theorem zk_new {g k : Nat} (hg : w.heap.size <= g) : ∀ b, Zk Z g k b -> Z b \/ w.heap.size <= b := fun b hb => hb.imp id fun h => by omega
theorem zk_lt {g k : Nat} (hZ : ∀ b, Z b -> b < w.heap.size) (hw : w.heap.size <= w'.heap.size) (hg : g + k <= w'.heap.size) : ∀ b, Zk Z g k b -> b < w'.heap.size := fun b hb => by
 rcases hb with hb | hb
 · exact ltl (hZ b hb) hw
 · omega
theorem Rst.var (h : Rst Z w B x hs ra rc va vc) (v : Vr) (ho : OwnVr B w2 va2 vc2 (x.vars ++ [v])) (hg : w.grownBy w2 (Value.ownBlock (.slice va x.vars.length vc))) (ha : ∃ g, va2 = some ⟨g, 0, none⟩ /\ (va = some ⟨g, 0, none⟩ \/ g = w.heap.size)) :
  Rst Z w2 B ⟨x.vars ++ [v], x.coords, x.free⟩ hs ra rc va2 vc2 /\ Fr (Yv ra va) w w2 /\ (∀ g, va2 = some g -> va = some g \/ w.heap.size <= g.block) := by
 have hne : ∀ g, ra = some g -> Value.ownBlock (.slice va x.vars.length vc) ≠ some g.block := fun g hg e => by
  cases hv : va with
  | none => rw [hv] at e; simp [Value.ownBlock] at e
  | some g' =>
   rw [hv] at e
   simp [Value.ownBlock] at e
   exact own_apart h.co h.vr (by decide) g g' hg hv e.symm
 have hfr : Fr (Yv ra va) w w2 := (Fr.refl (Yv ra va) w).grown hg fun g hg => .inl (.inr ⟨g, hg, rfl⟩)
 have hva : ∀ g, va2 = some g -> va = some g \/ w.heap.size <= g.block := fun g hg => by
  obtain ⟨g', e1, e2⟩ := ha
  rw [e1] at hg
  injection hg with hg
  subst hg
  rcases e2 with e2 | e2
  · exact .inl e2
  · right; show _ <= g'; omega
 refine ⟨⟨h.eq, h.co.grown hg hne, ho, fun z hz => ?_⟩, hfr, hva⟩
 refine (h.all z hz).move (fun b hb => ?_) (hfr.mono fun b hb => .inl hb)
 rcases hb with (hb | ⟨g, hg, rfl⟩) | hb
 · exact .inl (.inl (.inl hb))
 ·
  rcases hva g hg with e | e
  · exact .inl (.inl (.inr ⟨g, e, rfl⟩))
  · exact .inr e
 · exact .inl (.inr hb)
theorem Rst.push (h : Rst Z w B x hs ra rc va vc) (z : VQ × Vec) (hz : VecX (Yr Z ra va) w z.1 z.2) (ho : OwnCo B w2 ra2 rc2 (hs ++ [z])) (hg : w.grownBy w2 (Value.ownBlock (.slice ra hs.length rc)))
  (ha : ∃ g, ra2 = some ⟨g, 0, none⟩ /\ (ra = some ⟨g, 0, none⟩ \/ g = w.heap.size)) :
  Rst Z w2 B ⟨x.vars, x.coords ++ [z.2], x.free⟩ (hs ++ [z]) ra2 rc2 va vc /\ Fr (Yv ra va) w w2 /\ (∀ g, ra2 = some g -> ra = some g \/ w.heap.size <= g.block) := by
 have hne : ∀ g, va = some g -> Value.ownBlock (.slice ra hs.length rc) ≠ some g.block := fun g hg e => by
  cases hv : ra with
  | none => rw [hv] at e; simp [Value.ownBlock] at e
  | some g' =>
   rw [hv] at e
   simp [Value.ownBlock] at e
   exact own_apart h.co h.vr (by decide) g' g hv hg e
 have hfr : Fr (Yv ra va) w w2 := (Fr.refl (Yv ra va) w).grown hg fun g hg => .inl (.inl ⟨g, hg, rfl⟩)
 have hra : ∀ g, ra2 = some g -> ra = some g \/ w.heap.size <= g.block := fun g hg => by
  obtain ⟨g', e1, e2⟩ := ha
  rw [e1] at hg
  injection hg with hg
  subst hg
  rcases e2 with e2 | e2
  · exact .inl e2
  · right; show _ <= g'; omega
 have hm : ∀ b, Yr Z ra2 va b -> Yr Z ra va b \/ w.heap.size <= b := fun b hb => by
  rcases hb with (⟨g, hg, rfl⟩ | hb) | hb
  ·
   rcases hra g hg with e | e
   · exact .inl (.inl (.inl ⟨g, e, rfl⟩))
   · exact .inr e
  · exact .inl (.inl (.inr hb))
  · exact .inl (.inr hb)
 refine ⟨⟨by simp [h.eq], ho, h.vr.grown hg hne, fun u hu => ?_⟩, hfr, hra⟩
 rcases List.mem_append.1 hu with e | e
 · exact (h.all u e).move hm (hfr.mono fun b hb => .inl hb)
 ·
  rw [List.mem_singleton] at e
  subst e
  exact hz.move hm (hfr.mono fun b hb => .inl hb)
theorem yv_not {g : Nat} (h : ¬ Yv ra va g) (hv : ∀ p, va' = some p -> va = some p \/ w.heap.size <= p.block) (hg : g < w.heap.size) : ¬ Yv ra va' g := fun hy => by
 rcases hy with hy | ⟨p, hp, e⟩
 · exact h (.inl hy)
 ·
  rcases hv p hp with e2 | e2
  · exact h (.inr ⟨p, e2, e⟩)
  · omega
end
def RetPar (Z : Nat -> Prop) (B : Nat) (x : Frm) (v : Vr) (hs : List (VQ × Vec)) (ra : Option Addr) (rc : Nat) (va : Option Addr) (w : World) (e : Ending) (w' : World) : Prop :=
 ∃ va' vc' a c, e = .returned (.tuple #[.agg #[.slice ra hs.length rc, .slice va' (x.vars.length + 1) vc'], .slice a (varP x.vars.length).length c]) /\
  Rst Z w' B ⟨x.vars ++ [v], x.coords, x.free⟩ hs ra rc va' vc' /\ PolX (Yr Z ra va') w' a c (varP x.vars.length) /\ Fr (Yv ra va) w w' /\ (∀ g, va' = some g -> va = some g \/ w.heap.size <= g.block)
theorem paramR_any (Z : Nat -> Prop) (B : Nat) (x : Frm) (hs : List (VQ × Vec)) (ra va : Option Addr) (rc vc : Nat) (kind step number : Int) (w : World) (hR : Rst Z w B x hs ra rc va vc) (hl : x.vars.length <= 1000) (hZ : ∀ b, Z b -> b < w.heap.size) (hBw : B <= w.heap.size) :
  Calls Tryz.prog 125 #[.agg #[.slice ra hs.length rc, .slice va x.vars.length vc], .int .i64 kind, .int .i64 step, .int .i64 number] w (RetPar Z B x (kind, step, number) hs ra rc va w) := by
 have HR := Hd hR
 have HZ := Hd hZ
 have hn0 : ∀ g, w.heap.size <= g -> ¬ Yv ra va g := fun g hg h => by have := hR.lt _ h; omega
 replace hn0 := Hd hn0
 clear hR hZ
 go_enter Tryz.func125, Tryz.ntmps125
 have hvl : x.vars.length + 1 - 1 = x.vars.length := by omega
 obtain ⟨vr, hvr⟩ : ∃ v : Vr, v = (kind, step, number) := ⟨_, rfl⟩
 rw [<- hvr]
 have hcv : vrC vr = [.int .i64 kind, .int .i64 step, .int .i64 number] := by rw [hvr]; rfl
 replace hvr := Hd hvr; replace hcv := Hd hcv
 go_wp2_with (at_builtin; go_must (refine world_gen (fun W => Blk W w.heap.size 58 #[.slice ra hs.length rc, .slice va x.vars.length vc] /\ Blk W (w.heap.size + 1) 58 #[.slice none 0 0, .slice none 0 0] /\ Blk W (w.heap.size + 1 + 1) 83 #[.int .i64 kind, .int .i64 step, .int .i64 number] /\ Below w.heap.size w W) (by refine ⟨?_,?_,?_,?_⟩<;>first|((with_reducible repeat first|assumption|(apply bF;focus omega)|apply bS|(apply bN;focus (simp;done))|apply bA|apply bD);all_goals rfl)|go_grown) ?_); rintro w2 ⟨h0, h1, h2, hw2⟩; have HR2 : Rst (Zk Z w.heap.size 3) w2 B x hs ra rc va vc := (HR.out.more (zk_new (nlr _))).call hw2; go_must (refine wpList_append_1 (B := B) rfl (.tmp 11) (.tmp 16) 56 rfl Tryz.underlying56 infoVr rfl (by omega) (by omega) vrC_len va vc rfl HR2.vr vr (vrC_one _) (w.heap.size + 1 + 1) 1 rfl (fun j u hu => by rw [hcv.out] at hu; have e := h2.cell j; rw [e]; simpa using hu) (x.vars ++ [vr]) rfl (by simp; omega) (by have := hw2.size; omega) ?_); intro va2 vc2 w3 ho3 hg3 ha3; have hv3 := HR2.var vr ho3 hg3 ha3; have hlt2 := Hd h2.lt; have h03 := h0.grown hg3 (Own.ne_blk HR2.vr h0 (by decide)); have h13 := h1.grown hg3 (Own.ne_blk HR2.vr h1 (by decide)); have y0 := h03.cell 0; have y1 := h03.cell 1; have f1 := h03.frozen 1; have hl13 := h13.lt; replace hv3 := Hd hv3; replace hw2 := Hd hw2; have h03h := Hd h03; have h13h := Hd h13; clear h0 h1 h2 HR2 ho3 hg3 ha3 h03 h13)
 refine world_gen (fun W => Blk W w.heap.size 58 #[.slice ra hs.length rc, .slice va2 (x.vars.length + 1) vc2] /\ Blk W (w.heap.size + 1) 58 #[.slice none 0 0, .slice none 0 0] /\ Rst (Zk Z w.heap.size 3) W B ⟨x.vars ++ [vr], x.coords, x.free⟩ hs ra rc va2 vc2 /\ Fr (Yv ra va) w W /\ w.heap.size + 3 <= W.heap.size) ⟨by have a := h03h.out; ((with_reducible repeat first|assumption|(apply bF;focus omega)|apply bS|(apply bN;focus (simp;done))|apply bA|apply bD);all_goals rfl), by have a := h13h.out; ((with_reducible repeat first|assumption|(apply bF;focus omega)|apply bS|(apply bN;focus (simp;done))|apply bA|apply bD);all_goals rfl), ?_, ?_, ?_⟩ ?_
 · refine hv3.out.1.set_ (.inr ⟨nlr _, by omega⟩) (yv_not (hn0.out _ (nlr _)) hv3.out.2.2 (by have := hlt2.out; omega))
 · exact ((Fr.below hw2.out).trans hv3.out.2.1).setc (.inr (nlr _))
 · have e1 := hv3.out.2.1.size; have e2 := hlt2.out; simp only [World.size_setCell]; omega
 have hvv : ∀ g, va2 = some g -> va = some g \/ w.heap.size <= g.block := fun g hg => by
  have := hw2.out.size
  rcases hv3.out.2.2 g hg with e | e
  · exact .inl e
  · exact .inr (by omega)
 replace hvv := Hd hvv
 have hn1' : ¬ Yv ra va2 (w.heap.size + 1) := yv_not (hn0.out (w.heap.size + 1) (by omega)) hv3.out.2.2 (by have := hlt2.out; omega)
 replace hn1' := Hd hn1'
 clear y0 y1 f1 hl13 hv3 hw2 h03h h13h
 rintro w4 ⟨h0, h1, hR4, hf4, hs4⟩
 obtain ⟨g1, hg1⟩ : ∃ g, g = w.heap.size + 1 := ⟨_, rfl⟩
 rw [<- hg1] at h1 ⊢
 have hgl := h1.lt
 have hgw : w.heap.size <= g1 := by omega
 have hZ1 : Zk Z w.heap.size 3 g1 := .inr (by omega)
 have hYl : ∀ b, Yr (Zk Z w.heap.size 3) ra va2 b -> b < w4.heap.size := fun b hb => by
  rcases hb with hb | hb | hb
  · exact hR4.lt b hb
  · have := HZ.out b hb; have := hf4.size; omega
  · omega
 have hn1 : ¬ Yv ra va2 g1 := by rw [hg1]; exact hn1'.out
 have x0 := held (h0.cell 0); have x1 := held (h0.cell 1)
 have s0 : Below w4.heap.size w4 w4.drew := brf.drew
 replace hYl := Hd hYl; replace hR4 := Hd hR4; replace hf4 := Hd hf4; replace hg1 := Hd hg1; replace hZ1 := Hd hZ1; replace hn1 := Hd hn1
 have hwrp : IntKind.i64.wrap (x.vars.length : Int) = x.vars.length := (IntWalk.i64_left _).trans (IntWalk.wrap64_in _ (by omega))
 clear h0
 refine wp_region_mix (S := Below w4.heap.size w4) [(0, .q), (1, .q), (2, .q), (3, .q), (4, .q), (5, .l), (6, .t), (7, .p)] (by kernel_rfl) (by kernel_rfl) (by kernel_rfl) (fun d _ _ _ _ h => by cases d <;> exact h) (s0) ?_
 iterate 5 (refine wpMix_q rfl rfl (fun K hK => ?_); apply Exists.intro; refine ⟨fun w' hw' => ?_, ?_⟩; (focus (go_simp; try rfl)); go_simp; refine hK _ _ ?_; clear hK K)
 refine wpMix_l rfl rfl (fun K hK => ?_)
 go_simp
 refine (varR_p (Yr (Zk Z w.heap.size 3) ra va2) x.vars.length w4.drew hYl.out (by omega)).mono ?_
 rintro r w5 ⟨a5, c5, rfl, hP5, hb5⟩
 dsimp only
 refine hK.out _ _ (bth s0 hb5) (fun _ => ?_)
 clear hK K
 have s5 := bth s0 hb5
 have h15 := h1.below' s5
 have z0 := h15.cell 0; have z1 := h15.cell 1; have f0 := h15.frozen 0; have f1 := h15.frozen 1; have zl := h15.lt
 replace hP5 := Hd hP5
 refine wpMix_t rfl rfl (fun K hK => ?_)
 go_simp
 refine hK.out _ _ ?_
 clear hK K
 iterate 1 (refine wpMix_p rfl rfl (fun K hK => ?_); apply Exists.intro; refine ⟨fun w' => ?_, ?_⟩; (focus (go_simp; try rfl)); go_simp; refine hK _ _ ?_; clear hK K)
 refine wpMix_nil ?_
 clear x0 x1 s0 z0 z1 f0 f1 zl
 go_wp2
 refine world_gen (fun W => Blk W g1 58 #[.slice ra hs.length rc, .slice va2 (x.vars.length + 1) vc2] /\ Rst Z W B ⟨x.vars ++ [vr], x.coords, x.free⟩ hs ra rc va2 vc2 /\ PolX (Yr Z ra va2) W a5 c5 (varP x.vars.length) /\ Fr (Yv ra va) w W) ⟨by ((with_reducible repeat first|assumption|(apply bF;focus omega)|apply bS|(apply bN;focus (simp;done))|apply bA|apply bD);all_goals rfl), ?_, ?_, ?_⟩ ?_
 · exact (((hR4.out.call s5).set_ hZ1.out hn1.out).set_ hZ1.out hn1.out).less fun b hb => .inl hb
 · exact (((hP5.out.step (Agr.setc (.inr hZ1.out) (Agr.refl _ _))).step (Agr.setc (.inr hZ1.out) (Agr.refl _ _)))).less fun b hb => hb.imp id .inl
 · exact ((hf4.out.call s5).setc (.inr hgw)).setc (.inr hgw)
 rintro w6 ⟨hF, hR6, hP6, hf6⟩
 have e0 := hF.cell 0; have e1 := hF.cell 1
 refine bodyPost_ret (v := .tuple #[.agg #[.slice ra hs.length rc, .slice va2 (x.vars.length + 1) vc2], .slice a5 (varP x.vars.length).length c5]) (by simp [results, Tryz.results125, go_sem, e0, e1]) rfl ?_
 exact ⟨va2, vc2, a5, c5, rfl, hR6, hP6, hf6, hvv.out⟩
def RetSt (Z : Nat -> Prop) (gB : Nat) (y : Frm) (v : Vec) (hs : List (VQ × Vec)) (ra : Option Addr) (rc : Nat) (va : Option Addr) (w : World) (e : Ending) (w' : World) : Prop :=
 ∃ va' vc' t, e = .returned (.agg #[.slice t.a v.1.length t.c, .slice t.b v.2.length t.d]) /\ Bst Z w' gB y hs ra rc va' vc' /\ VecX (Yz Z gB ra va') w' t v /\ Fr (Yb gB ra va) w w' /\ (∀ g, va' = some g -> va = some g \/ w.heap.size <= g.block)
section
variable {Z : Nat -> Prop} {w w' : World} {gB : Nat} {x : Frm} {hs : List (VQ × Vec)} {ra va va' : Option Addr} {rc vc : Nat}
theorem Bst.wide (h : Bst Z w gB x hs ra rc va vc) {g : Nat} (hg : w.heap.size <= g) : Bst (Xg Z g) w gB x hs ra rc va vc := ⟨h.eq, h.blk, h.co, h.vr, fun z hz => (h.all z hz).more fun b hb => by
 rcases hb with hb | hb | rfl
 · exact .inl (.inl hb)
 · exact .inl (.inr hb)
 · exact .inr hg⟩
theorem yz_less {g : Nat} : ∀ b, Yz Z gB ra va b -> Yz (Xg Z g) gB ra va b := fun b hb => hb.elim .inl fun h => .inr (.inl h)
theorem Bst.less {g : Nat} (h : Bst (Xg Z g) w gB x hs ra rc va vc) : Bst Z w gB x hs ra rc va vc := ⟨h.eq, h.blk, h.co, h.vr, fun z hz => (h.all z hz).less yz_less⟩
theorem Bst.far {g : Nat} (h : Bst (Xg Z g) w gB x hs ra rc va vc) {i : Nat} {u : Value} (hg : ¬ Yb gB ra va g) : Bst (Xg Z g) (w.setCell ⟨g, i, none⟩ u) gB x hs ra rc va vc := by
 have e : w.grownBy (w.setCell ⟨g, i, none⟩ u) (some g) := ⟨rfl, rfl, rfl, by simp [World.setCell], fun k _ hk => Below.heap_setCell _ _ _ _ (fun e => hk (by simp at e; rw [e]))⟩
 refine ⟨h.eq, h.blk.far (p := ⟨g, i, none⟩) (fun e => hg (.inl e.symm)) u, h.co.grown e fun p hp e => ?_, h.vr.grown e fun p hp e => ?_, fun z hz => ?_⟩
 · injection e with e; exact hg (.inr (.inl ⟨p, hp, e⟩))
 · injection e with e; exact hg (.inr (.inr ⟨p, hp, e⟩))
 · exact (h.all z hz).step (Agr.setc (.inr (.inr rfl)) (Agr.refl _ _))
theorem vec_far {X : Nat -> Prop} {t : VQ} {v : Vec} {g i : Nat} {u : Value} (h : VecX X w t v) (hg : X g) : VecX X (w.setCell ⟨g, i, none⟩ u) t v := h.step (Agr.setc hg (Agr.refl _ _))
theorem yb_not {g : Nat} (h : ¬ Yb gB ra va g) (hv : ∀ p, va' = some p -> va = some p \/ w.heap.size <= p.block) (hg : g < w.heap.size) : ¬ Yb gB ra va' g := fun hy => by
 rcases hy with hy | hy | ⟨p, hp, e⟩
 · exact h (.inl hy)
 · exact h (.inr (.inl hy))
 ·
  rcases hv p hp with e2 | e2
  · exact h (.inr (.inr ⟨p, e2, e⟩))
  · omega
end
theorem dependent_any (Z : Nat -> Prop) (gB : Nat) (x : Frm) (hs : List (VQ × Vec)) (ra va : Option Addr) (rc vc : Nat) (step number : Int) (w : World) (hB : Bst Z w gB x hs ra rc va vc) (hl : x.vars.length <= 900) (hZ : ∀ b, Z b -> b < w.heap.size) (hn : 0 <= number /\ number <= 1000) :
  Calls Tryz.prog 68 #[.pointer (some ⟨gB, 0, none⟩), .int .i64 step, .int .i64 number] w
   (RetSt Z gB ⟨x.vars ++ [(2, step, number), (2, step, number + 1)], x.coords, x.free⟩ (varP x.vars.length, varP (x.vars.length + 1)) hs ra rc va w) := by
 obtain ⟨n1, n2⟩ := hn
 have HB := Hd hB
 have HZ := Hd hZ
 clear hB hZ
 go_enter Tryz.func68, Tryz.ntmps68
 go_wp2_with fail
 refine calls_gen (fun W => Blk W w.heap.size 78 #[.slice none 0 0, .slice none 0 0] /\ Bst (Xg Z w.heap.size) W gB x hs ra rc va vc /\ Fr (Yb gB ra va) w W /\ w.heap.size < W.heap.size) ⟨by ((with_reducible repeat first|assumption|(apply bF;focus omega)|apply bS|(apply bN;focus (simp;done))|apply bA|apply bD);all_goals rfl), (HB.out.wide (nlr _)).call (brf.alloc (nlr _) _), (Fr.refl _ _).alloc _, by simp⟩ ?_
 rintro w0 ⟨hz, hB0, hf0, hl0⟩
 have hZ0 := Xg_lt HZ.out hf0.size hl0
 have hn0 : ¬ Yb gB ra va w.heap.size := fun h => by have := HB.out.lt _ h; omega
 refine (variable_any (Xg Z w.heap.size) gB x hs ra va rc vc 2 step number w0 hB0 (by omega) hZ0).mono ?_
 rintro e w1 ⟨va1, vc1, a1, c1, rfl, hB1, hP1, hf1, hv1⟩
 have hn1 := yb_not hn0 hv1 hl0
 have hz1 := hz.fr hf1 hn0
 have hln : (x.vars ++ [((2 : Int), step, number)]).length = x.vars.length + 1 := by simp
 have C2 := variable_any (Xg Z w.heap.size) gB ⟨x.vars ++ [(2, step, number)], x.coords, x.free⟩ hs ra va1 rc vc1 2 step (number + 1) w1 hB1 (by dsimp only; omega) (fun b hb => ltl (hZ0 b hb) hf1.size)
 dsimp only at C2
 rw [hln, List.append_assoc] at C2
 replace C2 := Hd C2; replace hP1 := Hd hP1; replace hz1 := Hd hz1; replace hn1 := Hd hn1; replace hn0 := Hd hn0; replace hv1 := Hd hv1; replace hZ0 := Hd hZ0
 clear hz hB0 hB1 hln
 go_wp2_with fail
 refine C2.out.mono ?_
 rintro e w2 ⟨va2, vc2, a2, c2, rfl, hB2, hP2, hf2, hv2⟩
 have hz2 := hz1.out.fr hf2 hn1.out
 have hl1 := hf1.size; have hl2 := hf2.size; have hl00 := hf0.size
 have hn2 : ¬ Yb gB ra va2 w.heap.size := yb_not hn1.out hv2 (by omega)
 have hPm := hP1.out.move (yz_move (Z := Xg Z w.heap.size) (ra := ra) (gB := gB) hv2) (hf2.mono fun b hb => .inl hb)
 have hv : ∀ g, va2 = some g -> va = some g \/ w.heap.size <= g.block := fun g hg => by
  rcases hv2 g hg with e | e
  ·
   rcases hv1.out g e with e | e
   · exact .inl e
   · exact .inr (by omega)
  · exact .inr (by omega)
 have hfr : Fr (Yb gB ra va) w w2 := (hf0.trans hf1).then_ hf2 fun b hb => by
  rcases hb with hb | hb | ⟨g, hg, rfl⟩
  · exact .inl (.inl hb)
  · exact .inl (.inr (.inl hb))
  ·
   rcases hv1.out g hg with e | e
   · exact .inl (.inr (.inr ⟨g, e, rfl⟩))
   · exact .inr (by omega)
 have z0 := hz2.cell 0; have z1 := hz2.cell 1; have f0 := hz2.frozen 0; have f1 := hz2.frozen 1
 replace hP2 := Hd hP2; replace hPm := Hd hPm; replace hB2 := Hd hB2; replace hv := Hd hv; replace hfr := Hd hfr; replace hn2 := Hd hn2; replace hz2 := Hd hz2
 clear hf0 hf1 hf2 hv2
 go_wp2
 refine world_gen (fun W => Blk W w.heap.size 78 #[.slice a1 (varP x.vars.length).length c1, .slice a2 (varP (x.vars.length + 1)).length c2] /\ Bst Z W gB ⟨x.vars ++ [(2, step, number), (2, step, number + 1)], x.coords, x.free⟩ hs ra rc va2 vc2 /\ VecX (Yz Z gB ra va2) W ⟨a1, c1, a2, c2⟩ (varP x.vars.length, varP (x.vars.length + 1)) /\ Fr (Yb gB ra va) w W) ⟨?_, ?_, ?_, ?_⟩ ?_
 ·
  have hz2' := hz2.out
  ((with_reducible repeat first|assumption|(apply bF;focus omega)|apply bS|(apply bN;focus (simp;done))|apply bA|apply bD);all_goals rfl)
 · exact ((hB2.out.far hn2.out).far hn2.out).less
 ·
  refine VecX.less (Y := Yz (Xg Z w.heap.size) gB ra va2) ?_ yz_less
  exact vec_far (vec_far (⟨hPm.out, hP2.out⟩ : VecX (Yz (Xg Z w.heap.size) gB ra va2) w2 ⟨a1, c1, a2, c2⟩ (varP x.vars.length, varP (x.vars.length + 1))) (.inr (.inr rfl))) (.inr (.inr rfl))
 · exact (hfr.out.setc (.inr (nlr _))).setc (.inr (nlr _))
 rintro w4 ⟨hF, hB4, hV4, hf4⟩
 have e0 := hF.cell 0; have e1 := hF.cell 1
 refine bodyPost_ret (v := .agg #[.slice a1 (varP x.vars.length).length c1, .slice a2 (varP (x.vars.length + 1)).length c2]) (by simp [results, Tryz.results68, go_sem, e0, e1]) rfl ?_
 exact ⟨va2, vc2, ⟨a1, c1, a2, c2⟩, rfl, hB4, hV4, hf4, hv.out⟩
theorem Bst.free {Z : Nat -> Prop} {w : World} {gB : Nat} {x : Frm} {hs : List (VQ × Vec)} {ra va : Option Addr} {rc vc : Nat} (h : Bst Z w gB x hs ra rc va vc) (f : Nat) :
  Bst Z (w.setCell ⟨gB, 2, none⟩ (.int .i64 f)) gB ⟨x.vars, x.coords, f⟩ hs ra rc va vc :=
 ⟨h.eq, by have := h.blk.set_ 2 (.int .i64 f); simpa using this, h.co.far (Nat.lt_succ_self gB) _, h.vr.far (Nat.lt_succ_self gB) _, fun z hz => (h.all z hz).step (Agr.setc (.inl (.inl rfl)) (Agr.refl _ _))⟩
def pointF (x : Frm) (i : Int) : List Vr × Vec :=
 if x.free = 0 then (x.vars, ([], []))
 else if x.free = 1 then (x.vars ++ [(1, i, 0)], (varP x.vars.length, []))
 else (x.vars ++ [(1, i, 0), (1, i, 1)], (varP x.vars.length, varP (x.vars.length + 1)))
theorem point0_any (Z : Nat -> Prop) (gB : Nat) (vars : List Vr) (coords : List Vec) (hs : List (VQ × Vec)) (ra va : Option Addr) (rc vc : Nat) (step : Int) (w : World) (hB : Bst Z w gB ⟨vars, coords, 0⟩ hs ra rc va vc) :
  Calls Tryz.prog 61 #[.pointer (some ⟨gB, 0, none⟩), .int .i64 step] w (RetSt Z gB ⟨vars, coords, 1⟩ ([], []) hs ra rc va w) := by
 have HB := Hd hB
 have z2 := hB.blk.cell 2
 have zl := hB.blk.lt
 have f2 := hB.blk.frozen 2
 have hn0 : ¬ Yb gB ra va w.heap.size := fun h => by have := hB.lt _ h; omega
 replace hn0 := Hd hn0
 clear hB
 go_enter Tryz.func61, Tryz.ntmps61
 go_wp2
 refine world_gen (fun W => Blk W w.heap.size 78 #[.slice none 0 0, .slice none 0 0] /\ Bst Z W gB ⟨vars, coords, 1⟩ hs ra rc va vc /\ Fr (Yb gB ra va) w W) ⟨by ((with_reducible repeat first|assumption|(apply bF;focus omega)|apply bS|(apply bN;focus (simp;done))|apply bA|apply bD);all_goals rfl), ?_, ?_⟩ ?_
 · exact (HB.out.free 1).call (brf.alloc (nlr _) _)
 · exact ((Fr.refl (Yb gB ra va) w).setc (.inl (.inl rfl))).alloc _
 rintro w4 ⟨hF, hB4, hf4⟩
 have e0 := hF.cell 0; have e1 := hF.cell 1
 refine bodyPost_ret (v := .agg #[.slice none 0 0, .slice none 0 0]) (by simp [results, Tryz.results61, go_sem, e0, e1]) rfl ?_
 exact ⟨va, vc, ⟨none, 0, none, 0⟩, rfl, hB4, ⟨PolX.nil, PolX.nil⟩, hf4, fun _ h => .inl h⟩
theorem point1_any (Z : Nat -> Prop) (gB : Nat) (vars : List Vr) (coords : List Vec) (hs : List (VQ × Vec)) (ra va : Option Addr) (rc vc : Nat) (step : Int) (w : World) (hB : Bst Z w gB ⟨vars, coords, 1⟩ hs ra rc va vc) (hl : vars.length <= 900) (hZ : ∀ b, Z b -> b < w.heap.size) :
  Calls Tryz.prog 61 #[.pointer (some ⟨gB, 0, none⟩), .int .i64 step] w (RetSt Z gB ⟨vars ++ [(1, step, 0)], coords, 2⟩ (varP vars.length, []) hs ra rc va w) := by
 have HB := Hd hB
 have HZ := Hd hZ
 have z2 := hB.blk.cell 2
 have zl := hB.blk.lt
 have f2 := hB.blk.frozen 2
 have hn0 : ¬ Yb gB ra va w.heap.size := fun h => by have := hB.lt _ h; omega
 replace hn0 := Hd hn0
 clear hB hZ
 go_enter Tryz.func61, Tryz.ntmps61
 go_wp2_with fail
 refine calls_gen (fun W => Blk W w.heap.size 78 #[.slice none 0 0, .slice none 0 0] /\ Bst (Xg Z w.heap.size) W gB ⟨vars, coords, 2⟩ hs ra rc va vc /\ Fr (Yb gB ra va) w W /\ w.heap.size < W.heap.size) ⟨by ((with_reducible repeat first|assumption|(apply bF;focus omega)|apply bS|(apply bN;focus (simp;done))|apply bA|apply bD);all_goals rfl), ?_, ?_, by simp⟩ ?_
 · exact ((HB.out.wide (nlr _)).free 2).call (brf.alloc (nlr _) _)
 · exact ((Fr.refl (Yb gB ra va) w).setc (.inl (.inl rfl))).alloc _
 rintro w0 ⟨hz, hB0, hf0, hl0⟩
 have hZ0 := Xg_lt HZ.out hf0.size hl0
 refine (variable_any (Xg Z w.heap.size) gB ⟨vars, coords, 2⟩ hs ra va rc vc 1 step 0 w0 hB0 (by dsimp only; omega) hZ0).mono ?_
 rintro e w1 ⟨va1, vc1, a1, c1, rfl, hB1, hP1, hf1, hv1⟩
 dsimp only at hB1 hP1
 have hn1 := yb_not hn0.out hv1 hl0
 have hz1 := hz.fr hf1 hn0.out
 have y0 := hz1.cell 0; have y1 := hz1.cell 1; have g0 := hz1.frozen 0; have g1 := hz1.frozen 1
 have e2 : Bst (Xg Z w.heap.size) w1 gB ⟨vars ++ [(1, step, 0)], coords, 2⟩ hs ra rc va1 vc1 := hB1
 have zz2 := hB1.blk.cell 2
 have hfr : Fr (Yb gB ra va) w w1 := hf0.trans hf1
 have hvv : ∀ g, va1 = some g -> va = some g \/ w.heap.size <= g.block := fun g hg => by
  rcases hv1 g hg with e | e
  · exact .inl e
  · exact .inr (by omega)
 replace hP1 := Hd hP1; replace hB1 := Hd hB1; replace hvv := Hd hvv; replace hfr := Hd hfr; replace hn1 := Hd hn1; replace e2 := Hd e2
 have hz1' := Hd hz1
 clear hf0 hf1 hv1 hz hB0 hz1
 go_wp2
 refine world_gen (fun W => Blk W w.heap.size 78 #[.slice a1 (varP vars.length).length c1, .slice none 0 0] /\ Bst Z W gB ⟨vars ++ [(1, step, 0)], coords, 2⟩ hs ra rc va1 vc1 /\ VecX (Yz Z gB ra va1) W ⟨a1, c1, none, 0⟩ (varP vars.length, []) /\ Fr (Yb gB ra va) w W) ⟨?_, ?_, ?_, ?_⟩ ?_
 ·
  have hz2' := hz1'.out
  ((with_reducible repeat first|assumption|(apply bF;focus omega)|apply bS|(apply bN;focus (simp;done))|apply bA|apply bD);all_goals rfl)
 · exact ((e2.out.far hn1.out).far hn1.out).less
 ·
  refine VecX.less (Y := Yz (Xg Z w.heap.size) gB ra va1) ?_ yz_less
  exact vec_far (vec_far (⟨hP1.out, PolX.nil⟩ : VecX (Yz (Xg Z w.heap.size) gB ra va1) w1 ⟨a1, c1, none, 0⟩ (varP vars.length, [])) (.inr (.inr rfl))) (.inr (.inr rfl))
 · exact (hfr.out.setc (.inr (nlr _))).setc (.inr (nlr _))
 rintro w4 ⟨hF, hB4, hV4, hf4⟩
 have e0 := hF.cell 0; have e1 := hF.cell 1
 refine bodyPost_ret (v := .agg #[.slice a1 (varP vars.length).length c1, .slice none 0 0]) (by simp [results, Tryz.results61, go_sem, e0, e1]) rfl ?_
 exact ⟨va1, vc1, ⟨a1, c1, none, 0⟩, rfl, hB4, hV4, hf4, hvv.out⟩
theorem point2_any (Z : Nat -> Prop) (gB : Nat) (vars : List Vr) (coords : List Vec) (hs : List (VQ × Vec)) (ra va : Option Addr) (rc vc : Nat) (step : Int) (w : World) (n : Nat) (hn : n <= 1000) (hB : Bst Z w gB ⟨vars, coords, n + 2⟩ hs ra rc va vc) (hl : vars.length <= 900) (hZ : ∀ b, Z b -> b < w.heap.size) :
  Calls Tryz.prog 61 #[.pointer (some ⟨gB, 0, none⟩), .int .i64 step] w (RetSt Z gB ⟨vars ++ [(1, step, 0), (1, step, 1)], coords, n + 3⟩ (varP vars.length, varP (vars.length + 1)) hs ra rc va w) := by
 have HB := Hd hB
 have HZ := Hd hZ
 have z2 := hB.blk.cell 2
 have zl := hB.blk.lt
 have f2 := hB.blk.frozen 2
 have hn0 : ¬ Yb gB ra va w.heap.size := fun h => by have := hB.lt _ h; omega
 replace hn0 := Hd hn0
 clear hB hZ
 go_enter Tryz.func61, Tryz.ntmps61
 go_wp2_with fail
 refine calls_gen (fun W => Blk W w.heap.size 78 #[.slice none 0 0, .slice none 0 0] /\ Bst (Xg Z w.heap.size) W gB ⟨vars, coords, n + 3⟩ hs ra rc va vc /\ Fr (Yb gB ra va) w W /\ w.heap.size < W.heap.size) ⟨by ((with_reducible repeat first|assumption|(apply bF;focus omega)|apply bS|(apply bN;focus (simp;done))|apply bA|apply bD);all_goals rfl), ?_, ?_, by simp⟩ ?_
 · exact ((HB.out.wide (nlr _)).free (n + 3)).call (brf.alloc (nlr _) _)
 · exact ((Fr.refl (Yb gB ra va) w).setc (.inl (.inl rfl))).alloc _
 rintro w0 ⟨hz, hB0, hf0, hl0⟩
 have hZ0 := Xg_lt HZ.out hf0.size hl0
 refine (variable_any (Xg Z w.heap.size) gB ⟨vars, coords, n + 3⟩ hs ra va rc vc 1 step 0 w0 hB0 (by dsimp only; omega) hZ0).mono ?_
 rintro e w1 ⟨va1, vc1, a1, c1, rfl, hB1, hP1, hf1, hv1⟩
 dsimp only at hB1 hP1
 have hn1 := yb_not hn0.out hv1 hl0
 have hz1 := hz.fr hf1 hn0.out
 have hln : (vars ++ [((1 : Int), step, (0 : Int))]).length = vars.length + 1 := by simp
 have zz2 := hB1.blk.cell 2; have zf2 := hB1.blk.frozen 2; have zzl := hB1.blk.lt
 have C2 := variable_any (Xg Z w.heap.size) gB ⟨vars ++ [(1, step, 0)], coords, n + 3⟩ hs ra va1 rc vc1 1 step 1 w1 hB1 (by dsimp only; omega) (fun b hb => ltl (hZ0 b hb) hf1.size)
 dsimp only at C2
 rw [hln, List.append_assoc] at C2
 replace C2 := Hd C2; replace hP1 := Hd hP1; replace hz1 := Hd hz1; replace hn1 := Hd hn1; replace hv1 := Hd hv1; replace hZ0 := Hd hZ0
 have dn : ((((n + 3 : Nat) : Int)) == 2) = false := by simp; omega
 clear hz hB0 hB1 hln
 go_wp2_with fail
 refine C2.out.mono ?_
 rintro e w2 ⟨va2, vc2, a2, c2, rfl, hB2, hP2, hf2, hv2⟩
 have hz2 := hz1.out.fr hf2 hn1.out
 have hl1 := hf1.size; have hl2 := hf2.size; have hl00 := hf0.size
 have hn2 : ¬ Yb gB ra va2 w.heap.size := yb_not hn1.out hv2 (by omega)
 have hPm := hP1.out.move (yz_move (Z := Xg Z w.heap.size) (ra := ra) (gB := gB) hv2) (hf2.mono fun b hb => .inl hb)
 have hv : ∀ g, va2 = some g -> va = some g \/ w.heap.size <= g.block := fun g hg => by
  rcases hv2 g hg with e | e
  ·
   rcases hv1.out g e with e | e
   · exact .inl e
   · exact .inr (by omega)
  · exact .inr (by omega)
 have hfr : Fr (Yb gB ra va) w w2 := (hf0.trans hf1).then_ hf2 fun b hb => by
  rcases hb with hb | hb | ⟨g, hg, rfl⟩
  · exact .inl (.inl hb)
  · exact .inl (.inr (.inl hb))
  ·
   rcases hv1.out g hg with e | e
   · exact .inl (.inr (.inr ⟨g, e, rfl⟩))
   · exact .inr (by omega)
 have z0 := hz2.cell 0; have z1 := hz2.cell 1; have f0 := hz2.frozen 0; have f1 := hz2.frozen 1
 replace hP2 := Hd hP2; replace hPm := Hd hPm; replace hB2 := Hd hB2; replace hv := Hd hv; replace hfr := Hd hfr; replace hn2 := Hd hn2; replace hz2 := Hd hz2
 clear hf0 hf1 hf2 hv2
 go_wp2
 refine world_gen (fun W => Blk W w.heap.size 78 #[.slice a1 (varP vars.length).length c1, .slice a2 (varP (vars.length + 1)).length c2] /\ Bst Z W gB ⟨vars ++ [(1, step, 0), (1, step, 1)], coords, n + 3⟩ hs ra rc va2 vc2 /\ VecX (Yz Z gB ra va2) W ⟨a1, c1, a2, c2⟩ (varP vars.length, varP (vars.length + 1)) /\ Fr (Yb gB ra va) w W) ⟨?_, ?_, ?_, ?_⟩ ?_
 ·
  have hz2' := hz2.out
  ((with_reducible repeat first|assumption|(apply bF;focus omega)|apply bS|(apply bN;focus (simp;done))|apply bA|apply bD);all_goals rfl)
 · exact ((hB2.out.far hn2.out).far hn2.out).less
 ·
  refine VecX.less (Y := Yz (Xg Z w.heap.size) gB ra va2) ?_ yz_less
  exact vec_far (vec_far (⟨hPm.out, hP2.out⟩ : VecX (Yz (Xg Z w.heap.size) gB ra va2) w2 ⟨a1, c1, a2, c2⟩ (varP vars.length, varP (vars.length + 1))) (.inr (.inr rfl))) (.inr (.inr rfl))
 · exact (hfr.out.setc (.inr (nlr _))).setc (.inr (nlr _))
 rintro w4 ⟨hF, hB4, hV4, hf4⟩
 have e0 := hF.cell 0; have e1 := hF.cell 1
 refine bodyPost_ret (v := .agg #[.slice a1 (varP vars.length).length c1, .slice a2 (varP (vars.length + 1)).length c2]) (by simp [results, Tryz.results61, go_sem, e0, e1]) rfl ?_
 exact ⟨va2, vc2, ⟨a1, c1, a2, c2⟩, rfl, hB4, hV4, hf4, hv.out⟩
theorem point_any (Z : Nat -> Prop) (gB : Nat) (x : Frm) (hs : List (VQ × Vec)) (ra va : Option Addr) (rc vc : Nat) (step : Int) (w : World) (hB : Bst Z w gB x hs ra rc va vc) (hl : x.vars.length <= 900) (hf : x.free <= 1000) (hZ : ∀ b, Z b -> b < w.heap.size) :
  Calls Tryz.prog 61 #[.pointer (some ⟨gB, 0, none⟩), .int .i64 step] w (RetSt Z gB ⟨(pointF x step).1, x.coords, x.free + 1⟩ (pointF x step).2 hs ra rc va w) := by
 obtain ⟨vars, coords, free⟩ := x
 match free, hB, hf with
 | 0, hB, _ => exact point0_any Z gB vars coords hs ra va rc vc step w hB
 | 1, hB, _ => exact point1_any Z gB vars coords hs ra va rc vc step w hB hl hZ
 | n + 2, hB, hf => exact point2_any Z gB vars coords hs ra va rc vc step w n (by dsimp only at hf; omega) hB hl hZ
end Go.Proofs.YtdnblkklgdnapaaGreat
