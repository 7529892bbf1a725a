/- Walks: the parameters of a frame, by both sides; steps with two solutions. -/
import Derived.Test.YtdnblkklgdnapaaGreatRc16
import Derived.Test.YtdnblkklgdnapaaGreatRc14
set_option linter.all false
set_option maxRecDepth 100000
set_option maxHeartbeats 4000000
namespace Go.Proofs.YtdnblkklgdnapaaGreat
open Go.RowKit
theorem low_pos1 : lowest (decide ((1 : Int) < 0)) (1 : Int).natAbs 1 = trip 1 := by
 have := lowest_z 1 1
 rw [this]
 rfl
theorem qsz_pos1 : qsz 1 <= 1 := qsz_le (limbs_len_le (by decide)) (limbs_len_le (by decide))
theorem pos1_q (w : World) : Calls Tryz.prog 19 #[.int .i64 1] w (RetQK 1 1 w) := by
 have := qint_any 1 w ⟨by omega, by omega⟩
 rw [low_pos1] at this
 exact this.mono fun _ _ h => retF_q qsz_pos1 h
theorem pos1R_q (w : World) : Calls Tryz.prog 23 #[.int .i64 1] w (RetQK 1 1 w) := by
 have := qintR_any 1 w ⟨by omega, by omega⟩
 rw [low_pos1] at this
 exact this.mono fun _ _ h => retF_q qsz_pos1 h
theorem var_row (n : Nat) : (List.replicate (n + 1) (0 : Int)).set n 1 = List.replicate n 0 ++ [1] := by
 rw [List.replicate_succ']
 rw [List.set_append_right _ _ (by simp)]
 simp
theorem var_arr (n : Nat) : (Array.replicate (n + 1) (Value.int .i64 0)).setIfInBounds n (.int .i64 1) = ((List.replicate n (0 : Int) ++ [1]).map (Value.int .i64)).toArray := by
 rw [<- var_row, List.map_set, <- List.setIfInBounds_toArray]
 simp
theorem var_int (n : Nat) : ∀ x ∈ List.replicate n (0 : Int) ++ [1], InInt x := fun x hx => by
 rcases List.mem_append.1 hx with h | h
 · have := List.eq_of_mem_replicate h; subst this; unfold InInt; omega
 · rw [List.mem_singleton] at h; subst h; unfold InInt; omega
theorem varS_p (X : Nat -> Prop) (n : Nat) (w : World) (hX : ∀ b, X b -> b < w.heap.size) (hn63 : n <= 1000000) : Calls Tryz.prog 107 #[.int .i64 n] w (RetP X (varP n) w) := by
 by_cases hn : n < 64
 ·
  have hmk := mk_ints 134 Tryz.underlying134 (n + 1) (by omega) w
  rw [show ((n + 1 : Nat) : Int) = (n : Int) + 1 by omega] at hmk
  have e : varP n = [(1, List.replicate n 0 ++ [1])] := by unfold varP; rw [if_pos hn]
  rw [e]
  have hr0 : RowZ (w.alloc (.cells (((List.replicate (n + 1) (0 : Int)).map (Value.int .i64)).toArray) 3)) w.heap.size (List.replicate (n + 1) 0) := Blk.new w _ _
  have c0 := hr0.cell (show (List.replicate (n + 1) (0 : Int))[n]? = some 0 by simp)
  have f0 := hr0.frozen n
  have HX := Hd hX
  clear hX hr0 e
  go_enter Tryz.func107, Tryz.ntmps107
  go_wp2_with fail
  refine calls_gen (fun W => RowZ W w.heap.size (List.replicate n 0 ++ [1]) /\ Below w.heap.size w W) ⟨by unfold RowZ; rw [<- var_arr]; exact Blk.new w _ _, by go_grown⟩ ?_
  clear c0 f0 hmk
  rintro w1 ⟨hR, hw1⟩
  refine (pos1_q w1).mono ?_
  rintro e w2 ⟨x, rfl, HK, hb2⟩
  have hw2 := bth hw1 hb2
  have hm := (hR.below hb2).reads (var_int n) (by simp; unfold maxLen; omega) (B := w.heap.size) (T := w.heap.size + 1) (nlr _) (Nat.lt_succ_self _)
  have hln : (List.replicate n (0 : Int) ++ [1]).length = n + 1 := by simp
  rw [hln] at hm
  have C1 := singleS_p X x 1 (List.replicate n 0 ++ [1]) (some ⟨w.heap.size, 0, none⟩) (n + 1) w2 (fun b hb => by have := HX.out b hb; have := hw2.size; omega) (Rd.kp (HK.imp fun V h => h.1) fun b hb => by have := HX.out b hb; have := hw1.size; omega) (Nat.le_trans qsz_pos1 (by omega)) (by decide) (Rd.kp hm fun b hb => by have := HX.out b hb; omega)
  rw [hln] at C1
  replace C1 := Hd C1
  clear HK hm hln hR hw1
  go_wp2_with fail
  refine C1.out.mono ?_
  rintro e w3 ⟨a3, c3, rfl, hP, hb3⟩
  go_wp2
  go_ret
  exact ⟨a3, c3, rfl, hP, bth hw2 hb3⟩
 ·
  have e : varP n = [] := by unfold varP; rw [if_neg hn]
  rw [e]
  clear hX e
  have hge : (64 : Int) <= n := by omega
  go_enter Tryz.func107, Tryz.ntmps107
  go_wp2
  go_ret
  exact ⟨none, 0, rfl, PolX.nil, Below.refl _ _⟩
structure PQ where
 n : Nat
 a : Option Addr
 c : Nat
def PQ.cs (s : PQ) : List Value := [.slice s.a s.n s.c]
theorem PQ.cs_len (s : PQ) : s.cs.length = 1 := rfl
theorem PQ.cs_one (s : PQ) : ∀ u ∈ s.cs, u.oneCell' = true := by simp [PQ.cs, Value.oneCell']
abbrev OwnPq (B : Nat) (w : World) (a : Option Addr) (c : Nat) (l : List PQ) : Prop := Own PQ.cs 1 76 B w a c l
theorem infoPq : (Tryz.prog.info? 76).map (fun i => (i.zero, i.size, i.bytes)) = some (some (.slice none 0 0), 1, 24) := by kernel_rfl
theorem mk_pols (n : Nat) (hn : n <= 1000000) (w : World) :
  ∃ cur : Array Value, cur.size = n * 1 /\ (Instr.makeSlice 142 (.int .i64 0) (.int .i64 (n : Int))).run Tryz.prog w = .ok (.slice (some ⟨w.heap.size, 0, none⟩) 0 n) (w.alloc (.cells cur 76)) := by
 obtain ⟨i, hi, hz, hsz, hby⟩ := info_parts infoPq
 have := run_makeSlice (w := w) 142 76 i _ Tryz.underlying142 hi hz .i64 .i64 0 n (by omega) (by omega) (by rw [hsz]; simp; omega) (by rw [hby]; omega) (by omega)
 rw [hsz] at this
 simp only [Int.toNat_zero, Int.toNat_natCast] at this
 exact ⟨_, size_madeCells _ _, this⟩
theorem sum0_p (X : Nat -> Prop) (a : Option Addr) (c : Nat) (w : World) : Calls Tryz.prog 108 #[.slice a 0 c] w (RetP X [] w) := by
 go_enter Tryz.func108, Tryz.ntmps108
 go_wp2
 go_ret
 exact ⟨none, 0, rfl, PolX.nil, Below.refl _ _⟩
theorem sum1_p (X : Nat -> Prop) (p : List Tm) (b o c : Nat) (a1 : Option Addr) (c1 : Nat) (w : World) (hc : w.cell? ⟨b, o, none⟩ = some (.slice a1 p.length c1)) (hp : PolX X w a1 c1 p) : Calls Tryz.prog 108 #[.slice (some ⟨b, o, none⟩) 1 c] w (RetP X p w) := by
 have HP := Hd hp
 clear hp
 go_enter Tryz.func108, Tryz.ntmps108
 go_wp2
 go_ret
 exact ⟨a1, c1, rfl, HP.out, Below.refl _ _⟩
theorem mulS_a (X : Nat -> Prop) (p : List Tm) (v : Tm) (a b : Option Addr) (ca cb : Nat) (w : World) (hX : ∀ b, X b -> b < w.heap.size) (hp : PolX X w a ca p) (hq : PolX X w b cb [v]) (fp : FineP p) (fv : FineT v) (hl : 1 < p.length) :
  Calls Tryz.prog 67 #[.slice a p.length ca, .slice b 1 cb] w (RetP X (timesP p v) w) := by
 have lp := hp.len
 have l1 := fp.1
 obtain ⟨cur, hcs, hmk0⟩ := mk_pols 1 (by omega) w
 have hmk : (Instr.makeSlice 142 (.int .i64 0) (.int .i64 1)).run Tryz.prog w = .ok (.slice (some ⟨w.heap.size, 0, none⟩) 0 1) (w.alloc (.cells cur 76)) := hmk0
 clear hmk0
 obtain ⟨b1, o1, t, rfl, hs, hsR⟩ := hq.get (show [v][0]? = some v from rfl)
 have hXx : ∀ b, Xr X (some ⟨w.heap.size, 0, none⟩) b -> X b \/ w.heap.size <= b := fun b hb => by
  rcases hb with hb | ⟨g, hg, rfl⟩
  · exact .inl hb
  · injection hg with hg; subst hg; exact .inr (nlr _)
 have CT := fun W (hW : Below w.heap.size w W) (hlt : w.heap.size < W.heap.size) => timesS_p (Xr X (some ⟨w.heap.size, 0, none⟩)) p v.1 v.2 t a ca W (fun b hb => by
  rcases hb with hb | ⟨g, hg, rfl⟩
  · exact ltl (hX b hb) hW.size
  · injection hg with hg; subst hg; exact hlt) ((hp.more hXx).call hW) fp ((hsR.more hXx).call hW) fv
 obtain ⟨res, hres⟩ : ∃ res, timesP p v = res := ⟨_, rfl⟩
 rw [show (v.1, v.2) = v from rfl, hres] at CT
 rw [hres]
 obtain ⟨c0, c1, c2, c3⟩ := hs
 simp only [Nat.zero_mul, Nat.add_zero] at c0 c1 c2 c3
 have HX := Hd hX
 replace CT := Hd CT
 clear hp hq fp fv hsR hX hres
 go_enter Tryz.func67, Tryz.ntmps67
 go_wp2
 refine world_gen (fun W => OwnPq w.heap.size W (some ⟨w.heap.size, 0, none⟩) 1 [] /\ Below w.heap.size w W) ⟨World.ownsRow_made w cur 1 (nlr _) (by simp [maxLen]) hcs, by go_grown⟩ ?_
 rintro w0 ⟨how, hw0⟩
 have d0 := held c0 w0 hw0; have d1 := held c1 w0 hw0; have d2 := held c2 w0 hw0; have d3 := held c3 w0 hw0
 replace how := Hd how
 clear hmk c0 c1 c2 c3
 refine wp_loop_rounds 2 ?_
 rw [rounds_succ]
 go_wp2_with fail
 refine calls_gen (fun W => OwnPq w.heap.size W (some ⟨w.heap.size, 0, none⟩) 1 [] /\ Below w0.heap.size w0 W) ⟨how.out.alloc _, by go_grown⟩ ?_
 clear d0 d1 d2 d3
 rintro w1 ⟨ho1, hw1⟩
 have hw1' := bth hw0 hw1
 refine (CT.out w1 hw1' (ho1.lt rfl).2).mono ?_
 rintro e w2 ⟨a2, c2, rfl, hP, hb2⟩
 have hw2 := bth hw1' hb2
 have ho2 := (ho1.below hb2).alloc (.cells #[.slice a2 res.length c2] 76)
 have hcl : ∀ j v, (PQ.cs ⟨res.length, a2, c2⟩)[j]? = some v -> (w2.alloc (.cells #[.slice a2 res.length c2] 76)).cell? ⟨w2.heap.size, j, none⟩ = some v := fun j v hj => by
  cases j with
  | zero => simp [PQ.cs] at hj; subst hj; exact (Blk.new w2 76 #[.slice a2 res.length c2]).cell 0
  | succ j => simp [PQ.cs] at hj
 have hP' := hP.step ((Agr.refl _ w2).alloc (.cells #[.slice a2 res.length c2] 76))
 replace ho2 := Hd ho2; replace hcl := Hd hcl; replace hP' := Hd hP'
 clear how ho1 hP
 go_wp2_with (at_builtin; go_must (refine wpList_append_1 (B := w.heap.size) rfl (.tmp 24) (.tmp 28) 142 rfl Tryz.underlying142 infoPq rfl (by omega) (by omega) PQ.cs_len (some ⟨w.heap.size, 0, none⟩) 1 (l := []) rfl ho2.out ⟨res.length, a2, c2⟩ (PQ.cs_one _) w2.heap.size 1 rfl hcl.out [⟨res.length, a2, c2⟩] rfl (by simp) (by have := hw2.size; simp; omega) ?_); intro a3 c3 w3 ho3 hg3 ha3)
 obtain ⟨g3, hg3e, hB3, hl3, hcc⟩ := ho3.at_ PQ.cs_len (k := 0) (x := ⟨res.length, a2, c2⟩) rfl
 subst hg3e
 have hcell := hcc 0 _ rfl
 have hX3 : PolX X w3 a2 c2 res := by
  have h1 := hP'.out.step ((Agr.refl (Xr X (some ⟨w.heap.size, 0, none⟩)) _).grown hg3 fun g hg => .inr ⟨g, hg, rfl⟩)
  exact h1.map fun R h => h.less fun b hb => .inl hb
 have hw3 : Below w.heap.size w w3 := below_append' (hw2.alloc hw2.size (.cells #[.slice a2 res.length c2] 76)) ho2.out hg3
 have C2 := sum1_p X res g3 0 c3 a2 c2 w3 (by simpa using hcell) hX3
 replace C2 := Hd C2
 clear hcc hP' ho2 hcl hg3 ha3 hX3 hcell ho3
 rw [rounds_succ]
 go_wp2_with fail
 refine C2.out.mono ?_
 rintro e w4 ⟨a4, c4, rfl, hP4, hb4⟩
 replace hP4 := Hd hP4
 go_wp2
 go_ret
 exact ⟨a4, c4, rfl, hP4.out, bth hw3 hb4⟩
theorem mk_none (w : World) :
  ∃ cur : Array Value, (Instr.makeSlice 142 (.int .i64 0) (.int .i64 0)).run Tryz.prog w = .ok (.slice (some ⟨w.heap.size, 0, none⟩) 0 0) (w.alloc (.cells cur 76)) := by
 obtain ⟨cur, _, h⟩ := mk_pols 0 (by omega) w
 exact ⟨cur, h⟩
theorem mulS_c (X : Nat -> Prop) (n : Nat) (a b : Option Addr) (ca cb : Nat) (w : World) (hn : n <= 1) : Calls Tryz.prog 67 #[.slice a 0 ca, .slice b n cb] w (RetP X [] w) := by
 obtain ⟨cur, hmk⟩ := mk_none w
 go_enter Tryz.func67, Tryz.ntmps67
 go_wp2
 refine world_gen (fun W => Below w.heap.size w W) (by go_grown) ?_
 intro w0 hw0
 clear hmk
 refine wp_loop_rounds 1 ?_
 rw [rounds_succ]
 go_wp2_with fail
 refine (sum0_p X _ _ w0).mono ?_
 rintro e w1 ⟨a1, c1, rfl, hP, hb1⟩
 replace hP := Hd hP
 go_wp2
 go_ret
 exact ⟨a1, c1, rfl, hP.out, bth hw0 hb1⟩
theorem mulS_d (X : Nat -> Prop) (n : Nat) (a b : Option Addr) (ca cb : Nat) (w : World) (hn : 0 < n) (hm : n <= 1000000) : Calls Tryz.prog 67 #[.slice a n ca, .slice b 0 cb] w (RetP X [] w) := by
 obtain ⟨cur, hmk⟩ := mk_none w
 go_enter Tryz.func67, Tryz.ntmps67
 go_wp2
 refine world_gen (fun W => Below w.heap.size w W) (by go_grown) ?_
 intro w0 hw0
 clear hmk
 refine wp_loop_rounds 1 ?_
 rw [rounds_succ]
 go_wp2_with fail
 refine (sum0_p X _ _ w0).mono ?_
 rintro e w1 ⟨a1, c1, rfl, hP, hb1⟩
 replace hP := Hd hP
 go_wp2
 go_ret
 exact ⟨a1, c1, rfl, hP.out, bth hw0 hb1⟩
theorem mulS_b (X : Nat -> Prop) (u v : Tm) (a b : Option Addr) (ca cb : Nat) (w : World) (hX : ∀ b, X b -> b < w.heap.size) (hp : PolX X w a ca [u]) (hq : PolX X w b cb [v]) (fu : FineT u) (fv : FineT v) :
  Calls Tryz.prog 67 #[.slice a 1 ca, .slice b 1 cb] w (RetP X (timesP [v] u) w) := by
 obtain ⟨cur, hcs, hmk0⟩ := mk_pols 1 (by omega) w
 have hmk : (Instr.makeSlice 142 (.int .i64 0) (.int .i64 1)).run Tryz.prog w = .ok (.slice (some ⟨w.heap.size, 0, none⟩) 0 1) (w.alloc (.cells cur 76)) := hmk0
 clear hmk0
 obtain ⟨b1, o1, t, rfl, hs, hsR⟩ := hp.get (show [u][0]? = some u from rfl)
 have hXx : ∀ b, Xr X (some ⟨w.heap.size, 0, none⟩) b -> X b \/ w.heap.size <= b := fun b hb => by
  rcases hb with hb | ⟨g, hg, rfl⟩
  · exact .inl hb
  · injection hg with hg; subst hg; exact .inr (nlr _)
 have CT := fun W (hW : Below w.heap.size w W) (hlt : w.heap.size < W.heap.size) => timesS_p (Xr X (some ⟨w.heap.size, 0, none⟩)) [v] u.1 u.2 t b cb W (fun b hb => by
  rcases hb with hb | ⟨g, hg, rfl⟩
  · exact ltl (hX b hb) hW.size
  · injection hg with hg; subst hg; exact hlt) ((hq.more hXx).call hW) ⟨by simp, fun s hs => by rw [List.mem_singleton] at hs; subst hs; exact fv⟩ ((hsR.more hXx).call hW) fu
 obtain ⟨res, hres⟩ : ∃ res, timesP [v] u = res := ⟨_, rfl⟩
 rw [show (u.1, u.2) = u from rfl, hres] at CT
 rw [hres]
 dsimp only [List.length_cons, List.length_nil, Nat.zero_add] at CT
 obtain ⟨c0, c1, c2, c3⟩ := hs
 simp only [Nat.zero_mul, Nat.add_zero] at c0 c1 c2 c3
 have HX := Hd hX
 replace CT := Hd CT
 clear hp hq fu fv hsR hX hres hXx
 go_enter Tryz.func67, Tryz.ntmps67
 go_wp2
 refine world_gen (fun W => OwnPq w.heap.size W (some ⟨w.heap.size, 0, none⟩) 1 [] /\ Below w.heap.size w W) ⟨World.ownsRow_made w cur 1 (nlr _) (by simp [maxLen]) hcs, by go_grown⟩ ?_
 rintro w0 ⟨how, hw0⟩
 have d0 := held c0 w0 hw0; have d1 := held c1 w0 hw0; have d2 := held c2 w0 hw0; have d3 := held c3 w0 hw0
 replace how := Hd how
 clear hmk c0 c1 c2 c3
 refine wp_loop_rounds 2 ?_
 rw [rounds_succ]
 go_wp2_with fail
 refine calls_gen (fun W => OwnPq w.heap.size W (some ⟨w.heap.size, 0, none⟩) 1 [] /\ Below w0.heap.size w0 W) ⟨how.out.alloc _, by go_grown⟩ ?_
 clear d0 d1 d2 d3
 rintro w1 ⟨ho1, hw1⟩
 have hw1' := bth hw0 hw1
 refine (CT.out w1 hw1' (ho1.lt rfl).2).mono ?_
 rintro e w2 ⟨a2, c2, rfl, hP, hb2⟩
 have hw2 := bth hw1' hb2
 have ho2 := (ho1.below hb2).alloc (.cells #[.slice a2 res.length c2] 76)
 have hcl : ∀ j v, (PQ.cs ⟨res.length, a2, c2⟩)[j]? = some v -> (w2.alloc (.cells #[.slice a2 res.length c2] 76)).cell? ⟨w2.heap.size, j, none⟩ = some v := fun j v hj => by
  cases j with
  | zero => simp [PQ.cs] at hj; subst hj; exact (Blk.new w2 76 #[.slice a2 res.length c2]).cell 0
  | succ j => simp [PQ.cs] at hj
 have hP' := hP.step ((Agr.refl _ w2).alloc (.cells #[.slice a2 res.length c2] 76))
 replace ho2 := Hd ho2; replace hcl := Hd hcl; replace hP' := Hd hP'
 clear how ho1 hP
 go_wp2_with (at_builtin; go_must (refine wpList_append_1 (B := w.heap.size) rfl (.tmp 24) (.tmp 28) 142 rfl Tryz.underlying142 infoPq rfl (by omega) (by omega) PQ.cs_len (some ⟨w.heap.size, 0, none⟩) 1 (l := []) rfl ho2.out ⟨res.length, a2, c2⟩ (PQ.cs_one _) w2.heap.size 1 rfl hcl.out [⟨res.length, a2, c2⟩] rfl (by simp) (by have := hw2.size; simp; omega) ?_); intro a3 c3 w3 ho3 hg3 ha3)
 obtain ⟨g3, hg3e, hB3, hl3, hcc⟩ := ho3.at_ PQ.cs_len (k := 0) (x := ⟨res.length, a2, c2⟩) rfl
 subst hg3e
 have hcell := hcc 0 _ rfl
 have hX3 : PolX X w3 a2 c2 res := by
  have h1 := hP'.out.step ((Agr.refl (Xr X (some ⟨w.heap.size, 0, none⟩)) _).grown hg3 fun g hg => .inr ⟨g, hg, rfl⟩)
  exact h1.map fun R h => h.less fun b hb => .inl hb
 have hw3 : Below w.heap.size w w3 := below_append' (hw2.alloc hw2.size (.cells #[.slice a2 res.length c2] 76)) ho2.out hg3
 have C2 := sum1_p X res g3 0 c3 a2 c2 w3 (by simpa using hcell) hX3
 replace C2 := Hd C2
 clear hcc hP' ho2 hcl hg3 ha3 hX3 hcell ho3
 rw [rounds_succ]
 go_wp2_with fail
 refine C2.out.mono ?_
 rintro e w4 ⟨a4, c4, rfl, hP4, hb4⟩
 replace hP4 := Hd hP4
 go_wp2
 go_ret
 exact ⟨a4, c4, rfl, hP4.out, bth hw3 hb4⟩
theorem mulS_p (X : Nat -> Prop) (p q : List Tm) (B B' : Int) (a b : Option Addr) (ca cb : Nat) (w : World) (hX : ∀ b, X b -> b < w.heap.size) (hp : PolX X w a ca p) (hq : PolX X w b cb q) (fp : FineP p) (fq : FineP q) (hl : q.length <= 1) (kp : Pok B p) (kq : Pok B' q) (hB : 0 <= B) (hB' : 0 <= B') :
  Calls Tryz.prog 67 #[.slice a p.length ca, .slice b q.length cb] w (RetP X (mulP p q) w) := by
 match q, hl with
 | [], _ =>
  rw [mulP_zero]
  match p with
  | [] => exact mulS_c X 0 a b ca cb w (by omega)
  | u :: p => exact mulS_d X (u :: p).length a b ca cb w (by simp) (by have := fp.1; omega)
 | [v], _ =>
  have fv := fq.2 v List.mem_cons_self
  match p with
  | [] => rw [mulP_one]; exact mulS_c X 1 a b ca cb w (by omega)
  | [u] =>
   have fu := fp.2 u List.mem_cons_self
   rw [mulP_comm kp kq hB hB', mulP_one]
   exact mulS_b X u v a b ca cb w hX hp hq fu fv
  | u :: u2 :: p => rw [mulP_one]; exact mulS_a X (u :: u2 :: p) v a b ca cb w hX hp hq fp fv (by simp)
structure VQ where
 a : Option Addr
 c : Nat
 b : Option Addr
 d : Nat
def VecX (X : Nat -> Prop) (w : World) (t : VQ) (v : Vec) : Prop := PolX X w t.a t.c v.1 /\ PolX X w t.b t.d v.2
theorem VecX.call {X : Nat -> Prop} {w w' : World} {t : VQ} {v : Vec} (h : VecX X w t v) (e : Below w.heap.size w w') : VecX X w' t v := ⟨h.1.call e, h.2.call e⟩
theorem VecX.step {X : Nat -> Prop} {w w' : World} {t : VQ} {v : Vec} (h : VecX X w t v) (e : Agr X w w') : VecX X w' t v := ⟨h.1.step e, h.2.step e⟩
theorem VecX.more {X Y : Nat -> Prop} {w : World} {t : VQ} {v : Vec} (h : VecX X w t v) (e : ∀ b, Y b -> X b \/ w.heap.size <= b) : VecX Y w t v := ⟨h.1.more e, h.2.more e⟩
def FineV (v : Vec) : Prop := FineP v.1 /\ FineP v.2
def RetVec (X : Nat -> Prop) (v : Vec) (w : World) (e : Ending) (w' : World) : Prop := ∃ t : VQ, e = .returned (.agg #[.slice t.a v.1.length t.c, .slice t.b v.2.length t.d]) /\ VecX X w' t v /\ Below w.heap.size w w'
theorem vof_any (a b : Option Addr) (n c m d : Nat) (w : World) : Calls Tryz.prog 59 #[.agg #[.slice a n c, .slice b m d]] w fun e w' => e = .returned (.agg #[.slice a n c, .slice b m d]) /\ Below w.heap.size w w' := by
 go_enter Tryz.func59, Tryz.ntmps59
 go_wp2
 refine world_gen (fun W => Blk W (w.heap.size + 1) 78 #[.slice a n c, .slice b m d] /\ Below w.heap.size w W) ⟨by ((with_reducible repeat first|assumption|(apply bF;focus omega)|apply bS|(apply bN;focus (simp;done))|apply bA|apply bD);all_goals rfl), by go_grown⟩ ?_
 rintro w1 ⟨hF, hw1⟩
 have e0 := hF.cell 0; have e1 := hF.cell 1
 refine bodyPost_ret (v := .agg #[.slice a n c, .slice b m d]) (by simp [results, Tryz.results59, go_sem, e0, e1]) rfl ?_
 exact ⟨rfl, hw1⟩
def Xg (X : Nat -> Prop) (g : Nat) : Nat -> Prop := fun b => X b \/ b = g
theorem PolX.less {X Y : Nat -> Prop} {w : World} {a : Option Addr} {c : Nat} {p : List Tm} (h : PolX Y w a c p) (e : ∀ b, X b -> Y b) : PolX X w a c p := h.map fun _ k => k.less e
theorem VecX.less {X Y : Nat -> Prop} {w : World} {t : VQ} {v : Vec} (h : VecX Y w t v) (e : ∀ b, X b -> Y b) : VecX X w t v := ⟨h.1.less e, h.2.less e⟩
theorem Xg_new {X : Nat -> Prop} {w : World} {g : Nat} (hg : w.heap.size <= g) : ∀ b, Xg X g b -> X b \/ w.heap.size <= b := fun b hb => by
 rcases hb with hb | rfl
 · exact .inl hb
 · exact .inr hg
theorem Xg_lt {X : Nat -> Prop} {w W : World} {g : Nat} (hX : ∀ b, X b -> b < w.heap.size) (hW : w.heap.size <= W.heap.size) (hg : g < W.heap.size) : ∀ b, Xg X g b -> b < W.heap.size := fun b hb => by
 rcases hb with hb | rfl
 · exact ltl (hX b hb) hW
 · exact hg
def ForAll (X : Nat -> Prop) (w : World) (f : Nat) (args : Array Value) (r : List Tm) : Prop :=
 ∀ (Y : Nat -> Prop) (W : World), (∀ b, Y b -> X b \/ w.heap.size <= b) -> (∀ b, Y b -> b < W.heap.size) -> Below w.heap.size w W -> Calls Tryz.prog f args W (RetP Y r W)
theorem forAdd (X : Nat -> Prop) (p q : List Tm) (a b : Option Addr) (ca cb : Nat) (w : World) (hp : PolX X w a ca p) (hq : PolX X w b cb q) (fp : FineP p) (fq : FineP q) : ForAll X w 60 #[.slice a p.length ca, .slice b q.length cb] (addP p q) :=
 fun Y W h1 h2 hW => addS_p Y p q a b ca cb W h2 ((hp.more h1).call hW) ((hq.more h1).call hW) fp fq
theorem forSub (X : Nat -> Prop) (p q : List Tm) (a b : Option Addr) (ca cb : Nat) (w : World) (hp : PolX X w a ca p) (hq : PolX X w b cb q) (fp : FineP p) (fq : FineP q) : ForAll X w 101 #[.slice a p.length ca, .slice b q.length cb] (subP p q) :=
 fun Y W h1 h2 hW => subS_p Y p q a b ca cb W h2 ((hp.more h1).call hW) ((hq.more h1).call hW) fp fq
theorem combineAdd_v (X : Nat -> Prop) (u v : Vec) (r1 r2 : List Tm) (s t : VQ) (w : World) (hX : ∀ b, X b -> b < w.heap.size)
  (C1 : ForAll X w 60 #[.slice s.a u.1.length s.c, .slice t.a v.1.length t.c] r1) (C2 : ForAll X w 60 #[.slice s.b u.2.length s.d, .slice t.b v.2.length t.d] r2) :
  Calls Tryz.prog 58 #[.agg #[.slice s.a u.1.length s.c, .slice s.b u.2.length s.d], .agg #[.slice t.a v.1.length t.c, .slice t.b v.2.length t.d], .func (Fn.func 60) #[] #[]] w (RetVec X (r1, r2) w) := by
 replace C1 := Hd C1; replace C2 := Hd C2
 have HX := Hd hX
 clear hX
 go_enter Tryz.func58, Tryz.ntmps58
 go_wp2
 refine world_gen (fun W => Blk W w.heap.size 78 #[.slice s.a u.1.length s.c, .slice s.b u.2.length s.d] /\ Blk W (w.heap.size + 1) 78 #[.slice t.a v.1.length t.c, .slice t.b v.2.length t.d] /\ Blk W (w.heap.size + 1 + 1) 78 #[.slice none 0 0, .slice none 0 0] /\ Below w.heap.size w W) (by refine ⟨?_,?_,?_,?_⟩<;>first|((with_reducible repeat first|assumption|(apply bF;focus omega)|apply bS|(apply bN;focus (simp;done))|apply bA|apply bD);all_goals rfl)|go_grown) ?_
 rintro w0 ⟨hx, hy, hz, hw0⟩
 obtain ⟨g2, hg2⟩ : ∃ g, g = w.heap.size + 1 + 1 := ⟨_, rfl⟩
 rw [<- hg2] at hz ⊢
 have hgw : w.heap.size <= g2 := by omega
 have hgl := hz.lt
 have hY1 := Xg_new (X := X) hgw
 have hY2 := Xg_lt HX.out hw0.size hgl
 replace hg2 := Hd hg2; replace hY1 := Hd hY1; replace hY2 := Hd hY2
 have x0 := held (hx.cell 0); have x1 := held (hx.cell 1); have y0 := held (hy.cell 0); have y1 := held (hy.cell 1)
 have s0 : Below w0.heap.size w0 w0.drew := brf.drew
 clear hx hy
 refine wp_region_mix (S := Below w0.heap.size w0) [(0, .q), (1, .q), (2, .q), (3, .q), (4, .q), (6, .q), (7, .q), (8, .q), (9, .q), (10, .q), (5, .l), (11, .t), (12, .p), (13, .t)] (by kernel_rfl) (by kernel_rfl) (by kernel_rfl) (fun d _ _ _ _ h => by cases d <;> exact h) (s0) ?_
 iterate 10 (refine wpMix_q rfl rfl (fun K hK => ?_); apply Exists.intro; refine ⟨fun w' hw' => ?_, ?_⟩; (focus (go_simp; try rfl)); go_simp; refine hK _ _ ?_; clear hK K)
 refine wpMix_l rfl rfl (fun K hK => ?_)
 go_simp
 refine (C1.out (Xg X g2) w0.drew hY1.out hY2.out (bth hw0 s0)).mono ?_
 rintro r w1 ⟨a1, c1, rfl, hP1, hb1⟩
 dsimp only
 refine hK.out _ _ (bth s0 hb1) (fun _ => ?_)
 clear hK K
 have s1 := bth s0 hb1
 refine wpMix_t rfl rfl (fun K hK => ?_)
 go_simp
 refine (C2.out _ _ hY1.out (fun b hb => ltl (hY2.out b hb) s1.size) (bth hw0 s1)).mono ?_
 rintro r w2 ⟨a2, c2, rfl, hP2, hb2⟩
 dsimp only
 refine hK.out _ _ ?_
 clear hK K
 have s2 := bth s1 hb2
 have hz2 := hz.below' s2
 have z0 := hz2.cell 0; have z1 := hz2.cell 1; have f0 := hz2.frozen 0; have f1 := hz2.frozen 1
 iterate 1 (refine wpMix_p rfl rfl (fun K hK => ?_); apply Exists.intro; refine ⟨fun w' => ?_, ?_⟩; (focus (go_simp; try rfl)); go_simp; refine hK _ _ ?_; clear hK K)
 refine wpMix_t rfl rfl (fun K hK => ?_)
 go_simp
 refine hK.out _ _ ?_
 clear hK K
 refine wpMix_nil ?_
 have hw2 := bth hw0 s2
 replace hP1 := Hd (hP1.call hb2); replace hP2 := Hd hP2
 clear z0 z1 f0 f1
 go_wp2
 refine world_gen (fun W => Blk W g2 78 #[.slice a1 r1.length c1, .slice a2 r2.length c2] /\ PolX (Xg X g2) W a1 c1 r1 /\ PolX (Xg X g2) W a2 c2 r2 /\ Below w.heap.size w W) ⟨by ((with_reducible repeat first|assumption|(apply bF;focus omega)|apply bS|(apply bN;focus (simp;done))|apply bA|apply bD);all_goals rfl), ?_, ?_, (hw2.setCell hgw _).setCell hgw _⟩ ?_
 · exact hP1.out.step (Agr.setc (.inr rfl) (Agr.setc (.inr rfl) (Agr.refl _ _)))
 · exact hP2.out.step (Agr.setc (.inr rfl) (Agr.setc (.inr rfl) (Agr.refl _ _)))
 rintro w3 ⟨hF, hQ1, hQ2, hw3⟩
 have e0 := hF.cell 0; have e1 := hF.cell 1
 refine bodyPost_ret (v := .agg #[.slice a1 r1.length c1, .slice a2 r2.length c2]) (by simp [results, Tryz.results58, go_sem, e0, e1]) rfl ?_
 exact ⟨⟨a1, c1, a2, c2⟩, rfl, ⟨hQ1.less fun b hb => .inl hb, hQ2.less fun b hb => .inl hb⟩, hw3⟩
theorem combineSub_v (X : Nat -> Prop) (u v : Vec) (r1 r2 : List Tm) (s t : VQ) (w : World) (hX : ∀ b, X b -> b < w.heap.size)
  (C1 : ForAll X w 101 #[.slice s.a u.1.length s.c, .slice t.a v.1.length t.c] r1) (C2 : ForAll X w 101 #[.slice s.b u.2.length s.d, .slice t.b v.2.length t.d] r2) :
  Calls Tryz.prog 58 #[.agg #[.slice s.a u.1.length s.c, .slice s.b u.2.length s.d], .agg #[.slice t.a v.1.length t.c, .slice t.b v.2.length t.d], .func (Fn.func 101) #[] #[]] w (RetVec X (r1, r2) w) := by
 replace C1 := Hd C1; replace C2 := Hd C2
 have HX := Hd hX
 clear hX
 go_enter Tryz.func58, Tryz.ntmps58
 go_wp2
 refine world_gen (fun W => Blk W w.heap.size 78 #[.slice s.a u.1.length s.c, .slice s.b u.2.length s.d] /\ Blk W (w.heap.size + 1) 78 #[.slice t.a v.1.length t.c, .slice t.b v.2.length t.d] /\ Blk W (w.heap.size + 1 + 1) 78 #[.slice none 0 0, .slice none 0 0] /\ Below w.heap.size w W) (by refine ⟨?_,?_,?_,?_⟩<;>first|((with_reducible repeat first|assumption|(apply bF;focus omega)|apply bS|(apply bN;focus (simp;done))|apply bA|apply bD);all_goals rfl)|go_grown) ?_
 rintro w0 ⟨hx, hy, hz, hw0⟩
 obtain ⟨g2, hg2⟩ : ∃ g, g = w.heap.size + 1 + 1 := ⟨_, rfl⟩
 rw [<- hg2] at hz ⊢
 have hgw : w.heap.size <= g2 := by omega
 have hgl := hz.lt
 have hY1 := Xg_new (X := X) hgw
 have hY2 := Xg_lt HX.out hw0.size hgl
 replace hg2 := Hd hg2; replace hY1 := Hd hY1; replace hY2 := Hd hY2
 have x0 := held (hx.cell 0); have x1 := held (hx.cell 1); have y0 := held (hy.cell 0); have y1 := held (hy.cell 1)
 have s0 : Below w0.heap.size w0 w0.drew := brf.drew
 clear hx hy
 refine wp_region_mix (S := Below w0.heap.size w0) [(0, .q), (1, .q), (2, .q), (3, .q), (4, .q), (6, .q), (7, .q), (8, .q), (9, .q), (10, .q), (5, .l), (11, .t), (12, .p), (13, .t)] (by kernel_rfl) (by kernel_rfl) (by kernel_rfl) (fun d _ _ _ _ h => by cases d <;> exact h) (s0) ?_
 iterate 10 (refine wpMix_q rfl rfl (fun K hK => ?_); apply Exists.intro; refine ⟨fun w' hw' => ?_, ?_⟩; (focus (go_simp; try rfl)); go_simp; refine hK _ _ ?_; clear hK K)
 refine wpMix_l rfl rfl (fun K hK => ?_)
 go_simp
 refine (C1.out (Xg X g2) w0.drew hY1.out hY2.out (bth hw0 s0)).mono ?_
 rintro r w1 ⟨a1, c1, rfl, hP1, hb1⟩
 dsimp only
 refine hK.out _ _ (bth s0 hb1) (fun _ => ?_)
 clear hK K
 have s1 := bth s0 hb1
 refine wpMix_t rfl rfl (fun K hK => ?_)
 go_simp
 refine (C2.out _ _ hY1.out (fun b hb => ltl (hY2.out b hb) s1.size) (bth hw0 s1)).mono ?_
 rintro r w2 ⟨a2, c2, rfl, hP2, hb2⟩
 dsimp only
 refine hK.out _ _ ?_
 clear hK K
 have s2 := bth s1 hb2
 have hz2 := hz.below' s2
 have z0 := hz2.cell 0; have z1 := hz2.cell 1; have f0 := hz2.frozen 0; have f1 := hz2.frozen 1
 iterate 1 (refine wpMix_p rfl rfl (fun K hK => ?_); apply Exists.intro; refine ⟨fun w' => ?_, ?_⟩; (focus (go_simp; try rfl)); go_simp; refine hK _ _ ?_; clear hK K)
 refine wpMix_t rfl rfl (fun K hK => ?_)
 go_simp
 refine hK.out _ _ ?_
 clear hK K
 refine wpMix_nil ?_
 have hw2 := bth hw0 s2
 replace hP1 := Hd (hP1.call hb2); replace hP2 := Hd hP2
 clear z0 z1 f0 f1
 go_wp2
 refine world_gen (fun W => Blk W g2 78 #[.slice a1 r1.length c1, .slice a2 r2.length c2] /\ PolX (Xg X g2) W a1 c1 r1 /\ PolX (Xg X g2) W a2 c2 r2 /\ Below w.heap.size w W) ⟨by ((with_reducible repeat first|assumption|(apply bF;focus omega)|apply bS|(apply bN;focus (simp;done))|apply bA|apply bD);all_goals rfl), ?_, ?_, (hw2.setCell hgw _).setCell hgw _⟩ ?_
 · exact hP1.out.step (Agr.setc (.inr rfl) (Agr.setc (.inr rfl) (Agr.refl _ _)))
 · exact hP2.out.step (Agr.setc (.inr rfl) (Agr.setc (.inr rfl) (Agr.refl _ _)))
 rintro w3 ⟨hF, hQ1, hQ2, hw3⟩
 have e0 := hF.cell 0; have e1 := hF.cell 1
 refine bodyPost_ret (v := .agg #[.slice a1 r1.length c1, .slice a2 r2.length c2]) (by simp [results, Tryz.results58, go_sem, e0, e1]) rfl ?_
 exact ⟨⟨a1, c1, a2, c2⟩, rfl, ⟨hQ1.less fun b hb => .inl hb, hQ2.less fun b hb => .inl hb⟩, hw3⟩
theorem between_v (X : Nat -> Prop) (u v : Vec) (s t : VQ) (w : World) (hX : ∀ b, X b -> b < w.heap.size) (hu : VecX X w s u) (hv : VecX X w t v) (fu : FineV u) (fv : FineV v) :
  Calls Tryz.prog 57 #[.agg #[.slice s.a u.1.length s.c, .slice s.b u.2.length s.d], .agg #[.slice t.a v.1.length t.c, .slice t.b v.2.length t.d]] w (RetVec X (subP v.1 u.1, subP v.2 u.2) w) := by
 have CC := fun (Y : Nat -> Prop) W (h1 : ∀ b, Y b -> X b \/ w.heap.size <= b) (h2 : ∀ b, Y b -> b < W.heap.size) (hW : Below w.heap.size w W) => combineSub_v Y v u (subP v.1 u.1) (subP v.2 u.2) t s W h2
  (forSub Y v.1 u.1 t.a s.a t.c s.c W ((hv.1.more h1).call hW) ((hu.1.more h1).call hW) fv.1 fu.1) (forSub Y v.2 u.2 t.b s.b t.d s.d W ((hv.2.more h1).call hW) ((hu.2.more h1).call hW) fv.2 fu.2)
 obtain ⟨r1, hr1⟩ : ∃ r, subP v.1 u.1 = r := ⟨_, rfl⟩
 obtain ⟨r2, hr2⟩ : ∃ r, subP v.2 u.2 = r := ⟨_, rfl⟩
 rw [hr1, hr2] at CC ⊢
 replace CC := Hd CC
 have HX := Hd hX
 clear hX hu hv fu fv hr1 hr2
 go_enter Tryz.func57, Tryz.ntmps57
 go_wp2
 refine world_gen (fun W => Blk W w.heap.size 81 #[.slice s.a u.1.length s.c, .slice s.b u.2.length s.d] /\ Blk W (w.heap.size + 1) 81 #[.slice t.a v.1.length t.c, .slice t.b v.2.length t.d] /\ Blk W (w.heap.size + 1 + 1) 78 #[.slice none 0 0, .slice none 0 0] /\ Below w.heap.size w W) (by refine ⟨?_,?_,?_,?_⟩<;>first|((with_reducible repeat first|assumption|(apply bF;focus omega)|apply bS|(apply bN;focus (simp;done))|apply bA|apply bD);all_goals rfl)|go_grown) ?_
 rintro w0 ⟨hx, hy, hz, hw0⟩
 obtain ⟨g2, hg2⟩ : ∃ g, g = w.heap.size + 1 + 1 := ⟨_, rfl⟩
 rw [<- hg2] at hz ⊢
 have hgw : w.heap.size <= g2 := by omega
 have hgl := hz.lt
 have hY1 := Xg_new (X := X) hgw
 have hY2 := Xg_lt HX.out hw0.size hgl
 replace hg2 := Hd hg2; replace hY1 := Hd hY1; replace hY2 := Hd hY2
 have x0 := held (hx.cell 0); have x1 := held (hx.cell 1); have y0 := held (hy.cell 0); have y1 := held (hy.cell 1)
 have s0 : Below w0.heap.size w0 w0.drew := brf.drew
 clear hx hy
 refine wp_region_mix (S := Below w0.heap.size w0) [(0, .q), (2, .q), (1, .l), (3, .t), (4, .t), (5, .t)] (by kernel_rfl) (by kernel_rfl) (by kernel_rfl) (fun d _ _ _ _ h => by cases d <;> exact h) (s0) ?_
 iterate 2 (refine wpMix_q rfl rfl (fun K hK => ?_); apply Exists.intro; refine ⟨fun w' hw' => ?_, ?_⟩; (focus (go_simp; try rfl)); go_simp; refine hK _ _ ?_; clear hK K)
 refine wpMix_l rfl rfl (fun K hK => ?_)
 go_simp
 refine (vof_any t.a t.b v.1.length t.c v.2.length t.d _).mono ?_
 rintro r w1 ⟨rfl, hb1⟩
 dsimp only
 refine hK.out _ _ (bth s0 hb1) (fun _ => ?_)
 clear hK K
 have s1 := bth s0 hb1
 refine wpMix_t rfl rfl (fun K hK => ?_)
 go_simp
 refine (vof_any s.a s.b u.1.length s.c u.2.length s.d _).mono ?_
 rintro r w2 ⟨rfl, hb2⟩
 dsimp only
 refine hK.out _ _ ?_
 clear hK K
 have s2 := bth s1 hb2
 refine wpMix_t rfl rfl (fun K hK => ?_)
 go_simp
 refine (CC.out (Xg X g2) _ hY1.out (fun b hb => ltl (hY2.out b hb) s2.size) (bth hw0 s2)).mono ?_
 rintro r w3 ⟨z, rfl, hP, hb3⟩
 dsimp only
 refine hK.out _ _ ?_
 clear hK K
 have s3 := bth s2 hb3
 have hz2 := hz.below' s3
 have z0 := hz2.cell 0; have z1 := hz2.cell 1; have f0 := hz2.frozen 0; have f1 := hz2.frozen 1
 refine wpMix_t rfl rfl (fun K hK => ?_)
 go_simp
 refine hK.out _ _ ?_
 clear hK K
 refine wpMix_nil ?_
 have hw2 := bth hw0 s3
 replace hP := Hd hP
 clear z0 z1 f0 f1
 go_wp2
 refine world_gen (fun W => Blk W g2 78 #[.slice z.a r1.length z.c, .slice z.b r2.length z.d] /\ VecX (Xg X g2) W z (r1, r2) /\ Below w.heap.size w W) ⟨by ((with_reducible repeat first|assumption|(apply bF;focus omega)|apply bS|(apply bN;focus (simp;done))|apply bA|apply bD);all_goals rfl), ?_, (hw2.setCell hgw _).setCell hgw _⟩ ?_
 · exact hP.out.step (Agr.setc (.inr rfl) (Agr.setc (.inr rfl) (Agr.refl _ _)))
 rintro w4 ⟨hF, hQ, hw4⟩
 have e0 := hF.cell 0; have e1 := hF.cell 1
 refine bodyPost_ret (v := .agg #[.slice z.a r1.length z.c, .slice z.b r2.length z.d]) (by simp [results, Tryz.results57, go_sem, e0, e1]) rfl ?_
 exact ⟨z, rfl, hQ.less fun b hb => .inl hb, hw4⟩
structure Fr (Y : Nat -> Prop) (w w' : World) : Prop where
 os : w'.os = w.os
 tape : w'.tape = w.tape
 output : w'.output = w.output
 size : w.heap.size <= w'.heap.size
 block : ∀ k, k < w.heap.size -> ¬ Y k -> w'.heap[k]? = w.heap[k]?
section
variable {Y Z : Nat -> Prop} {w w' w'' : World}
theorem Fr.refl (Y : Nat -> Prop) (w : World) : Fr Y w w := ⟨rfl, rfl, rfl, nlr _, fun _ _ _ => rfl⟩
theorem Fr.trans (h : Fr Y w w') (k : Fr Y w' w'') : Fr Y w w'' := ⟨k.os.trans h.os, k.tape.trans h.tape, k.output.trans h.output, Nat.le_trans h.size k.size, fun n h1 h2 => (k.block n (ltl h1 h.size) h2).trans (h.block n h1 h2)⟩
theorem Fr.then_ (h : Fr Y w w') (k : Fr Z w' w'') (e : ∀ b, Z b -> Y b \/ w.heap.size <= b) : Fr Y w w'' := ⟨k.os.trans h.os, k.tape.trans h.tape, k.output.trans h.output, Nat.le_trans h.size k.size, fun n h1 h2 => (k.block n (ltl h1 h.size) (fun hz => (e n hz).elim h2 (fun h => by omega))).trans (h.block n h1 h2)⟩
theorem Fr.mono (h : Fr Y w w') (e : ∀ b, Y b -> Z b) : Fr Z w w' := ⟨h.os, h.tape, h.output, h.size, fun k h1 h2 => h.block k h1 fun hy => h2 (e _ hy)⟩
theorem Fr.below (h : Below w.heap.size w w') : Fr Y w w' := ⟨h.os, h.tape, h.output, h.size, fun k hk _ => h.block k hk⟩
theorem Fr.call (h : Fr Y w w') (k : Below w'.heap.size w' w'') : Fr Y w w'' := h.trans (Fr.below k)
theorem Fr.alloc (h : Fr Y w w') (o : Obj) : Fr Y w (w'.alloc o) := h.call (brf.alloc (nlr _) _)
theorem Fr.setc (h : Fr Y w w') {g i : Nat} {u : Value} (hg : Y g \/ w.heap.size <= g) : Fr Y w (w'.setCell ⟨g, i, none⟩ u) := ⟨h.os, h.tape, h.output, by have := h.size; simpa [World.setCell] using this, fun k h1 h2 =>
 (Below.heap_setCell _ _ _ _ (fun e => by simp at e; subst e; exact hg.elim h2 (fun h => by omega))).trans (h.block k h1 h2)⟩
theorem Fr.grown (h : Fr Y w w') {a : Option Addr} {n c : Nat} (hg : w'.grownBy w'' (Value.ownBlock (.slice a n c))) (ha : ∀ g, a = some g -> Y g.block \/ w.heap.size <= g.block) : Fr Y w w'' := ⟨hg.os.trans h.os, hg.tape.trans h.tape, hg.output.trans h.output, Nat.le_trans h.size hg.size, fun k h1 h2 =>
 (hg.block k (ltl h1 h.size) (fun e => by
  cases a with
  | none => simp [Value.ownBlock] at e
  | some g => simp [Value.ownBlock] at e; subst e; exact (ha g rfl).elim h2 (fun h => by omega))).trans (h.block k h1 h2)⟩
theorem Fr.agr (h : Fr Y w w') : Agr Y w w' := fun p v hp hc => by
 have := h.block p.block (World.block_lt_of_cell? w p hc) hp
 rw [<- hc]
 unfold World.cell?
 rw [this]
theorem Blk.fr {g : Nat} {t : TypeId} {cs : Array Value} (h : Blk w g t cs) (k : Fr Y w w') (hg : ¬ Y g) : Blk w' g t cs := (k.block g h.lt hg).trans h
theorem Below.fr {B : Nat} {W0 : World} (h : Below B W0 w) (k : Fr Y w w') (hY : ∀ b, Y b -> B <= b) (hB : B <= w.heap.size) : Below B W0 w' :=
 ⟨k.os.trans h.os, k.tape.trans h.tape, k.output.trans h.output, Nat.le_trans h.size k.size, fun n hn => (k.block n (by omega) (fun hy => by have := hY n hy; omega)).trans (h.block n hn)⟩
end
theorem Rd.move {Y Z : Nat -> Prop} {w w' : World} {R : World -> Prop} (h : Rd Y w R) (e : ∀ b, Z b -> Y b \/ w.heap.size <= b) (k : Fr Y w w') : Rd Z w' R := fun V hV =>
 (((h.more (Y := fun b => Y b \/ Z b) fun b hb => hb.elim .inl (e b)).step (k.agr.mono fun b hb => .inl hb)).less (fun b hb => .inr hb) : Rd Z w' R) V hV
theorem PolX.move {Y Z : Nat -> Prop} {w w' : World} {a : Option Addr} {c : Nat} {p : List Tm} (h : PolX Y w a c p) (e : ∀ b, Z b -> Y b \/ w.heap.size <= b) (k : Fr Y w w') : PolX Z w' a c p := h.map fun _ r => r.move e k
theorem VecX.move {Y Z : Nat -> Prop} {w w' : World} {t : VQ} {v : Vec} (h : VecX Y w t v) (e : ∀ b, Z b -> Y b \/ w.heap.size <= b) (k : Fr Y w w') : VecX Z w' t v := ⟨h.1.move e k, h.2.move e k⟩
def Yb (gB : Nat) (ra va : Option Addr) : Nat -> Prop := fun b => b = gB \/ (∃ g : Addr, ra = some g /\ b = g.block) \/ (∃ g : Addr, va = some g /\ b = g.block)
def coC (x : VQ × Vec) : List Value := [.slice x.1.a x.2.1.length x.1.c, .slice x.1.b x.2.2.length x.1.d]
def vrC (v : Vr) : List Value := [.int .i64 v.1, .int .i64 v.2.1, .int .i64 v.2.2]
theorem coC_len (x : VQ × Vec) : (coC x).length = 2 := rfl
theorem vrC_len (v : Vr) : (vrC v).length = 3 := rfl
theorem coC_one (x : VQ × Vec) : ∀ u ∈ coC x, u.oneCell' = true := by simp [coC, Value.oneCell']
theorem vrC_one (v : Vr) : ∀ u ∈ vrC v, u.oneCell' = true := by simp [vrC, Value.oneCell']
theorem infoCo : (Tryz.prog.info? 81).map (fun i => (i.zero, i.size, i.bytes)) = some (some (.agg #[.slice none 0 0, .slice none 0 0]), 2, 48) := by kernel_rfl
theorem infoVr : (Tryz.prog.info? 83).map (fun i => (i.zero, i.size, i.bytes)) = some (some (.agg #[.int .i64 0, .int .i64 0, .int .i64 0]), 3, 24) := by kernel_rfl
abbrev OwnCo (B : Nat) (w : World) (a : Option Addr) (c : Nat) (l : List (VQ × Vec)) : Prop := Own coC 2 81 B w a c l
abbrev OwnVr (B : Nat) (w : World) (a : Option Addr) (c : Nat) (l : List Vr) : Prop := Own vrC 3 83 B w a c l
def AllV (X : Nat -> Prop) (w : World) (hs : List (VQ × Vec)) : Prop := ∀ x ∈ hs, VecX X w x.1 x.2
def Yz (Z : Nat -> Prop) (gB : Nat) (ra va : Option Addr) : Nat -> Prop := fun b => Yb gB ra va b \/ Z b
structure Bst (Z : Nat -> Prop) (w : World) (gB : Nat) (x : Frm) (hs : List (VQ × Vec)) (ra : Option Addr) (rc : Nat) (va : Option Addr) (vc : Nat) : Prop where
 eq : hs.map Prod.snd = x.coords
 blk : Blk w gB 74 #[.slice ra hs.length rc, .slice va x.vars.length vc, .int .i64 x.free]
 co : OwnCo (gB + 1) w ra rc hs
 vr : OwnVr (gB + 1) w va vc x.vars
 all : AllV (Yz Z gB ra va) w hs
section
variable {Z : Nat -> Prop} {w w' : World} {gB : Nat} {x : Frm} {hs : List (VQ × Vec)} {ra va : Option Addr} {rc vc : Nat}
theorem Bst.lt (h : Bst Z w gB x hs ra rc va vc) : ∀ b, Yb gB ra va b -> b < w.heap.size := fun b hb => by
 rcases hb with rfl | ⟨g, hg, rfl⟩ | ⟨g, hg, rfl⟩
 · exact h.blk.lt
 · exact (h.co.lt hg).2
 · exact (h.vr.lt hg).2
theorem Bst.ge (h : Bst Z w gB x hs ra rc va vc) : ∀ b, Yb gB ra va b -> gB <= b := fun b hb => by
 rcases hb with rfl | ⟨g, hg, rfl⟩ | ⟨g, hg, rfl⟩
 · exact nlr _
 · have := (h.co.lt hg).1; omega
 · have := (h.vr.lt hg).1; omega
theorem AllV.call {X : Nat -> Prop} (h : AllV X w hs) (e : Below w.heap.size w w') : AllV X w' hs := fun x hx => (h x hx).call e
theorem Bst.call (h : Bst Z w gB x hs ra rc va vc) (e : Below w.heap.size w w') : Bst Z w' gB x hs ra rc va vc := ⟨h.eq, h.blk.below' e, h.co.below e, h.vr.below e, h.all.call e⟩
theorem yz_move {va' : Option Addr} (h : ∀ g, va' = some g -> va = some g \/ w.heap.size <= g.block) : ∀ b, Yz Z gB ra va' b -> Yz Z gB ra va b \/ w.heap.size <= b := fun b hb => by
 rcases hb with (hb | hb | ⟨g, hg, rfl⟩) | hb
 · exact .inl (.inl (.inl hb))
 · exact .inl (.inl (.inr (.inl hb)))
 ·
  rcases h g hg with e | e
  · exact .inl (.inl (.inr (.inr ⟨g, e, rfl⟩)))
  · exact .inr e
 · exact .inl (.inr hb)
theorem own_apart {α β : Type} {f : α -> List Value} {f' : β -> List Value} {sz sz' B B' : Nat} {t t' : TypeId} {a b : Option Addr} {c d : Nat} {l : List α} {m : List β} (h : Own f sz t B w a c l) (k : Own f' sz' t' B' w b d m) (hne : t ≠ t') : ∀ g g', a = some g -> b = some g' -> g.block ≠ g'.block := by
 intro g g' ha hb e
 rcases h.2 with ⟨hn, _⟩ | ⟨g1, c1, cur1, h1, _, hh1, _⟩
 · rw [ha] at hn; cases hn
 ·
  rcases k.2 with ⟨hn, _⟩ | ⟨g2, c2, cur2, h2, _, hh2, _⟩
  · rw [hb] at hn; cases hn
  ·
   rw [ha] at h1; rw [hb] at h2
   injection h1 with h1
   injection h1 with h1
   injection h2 with h2
   injection h2 with h2
   subst h1
   subst h2
   simp at e
   subst e
   rw [hh1] at hh2
   injection hh2 with hh2
   injection hh2 with _ ht
   exact hne ht
end
theorem variable_any (Z : Nat -> Prop) (gB : Nat) (x : Frm) (hs : List (VQ × Vec)) (ra va : Option Addr) (rc vc : Nat) (kind step number : Int) (w : World) (hB : Bst Z w gB x hs ra rc va vc) (hl : x.vars.length <= 1000) (hZ : ∀ b, Z b -> b < w.heap.size) :
  Calls Tryz.prog 65 #[.pointer (some ⟨gB, 0, none⟩), .int .i64 kind, .int .i64 step, .int .i64 number] w fun e w' => ∃ va' vc' a c, e = .returned (.slice a (varP x.vars.length).length c) /\
   Bst Z w' gB ⟨x.vars ++ [(kind, step, number)], x.coords, x.free⟩ hs ra rc va' vc' /\ PolX (Yz Z gB ra va') w' a c (varP x.vars.length) /\ Fr (Yb gB ra va) w w' /\ (∀ g, va' = some g -> va = some g \/ w.heap.size <= g.block) := by
 obtain ⟨h1, h2, h3, h4, h5⟩ := id hB
 have z0 := h2.cell 0; have z1 := h2.cell 1; have z2 := h2.cell 2
 have zl := h2.lt
 have ho := h4.alloc (.cells #[.int .i64 kind, .int .i64 step, .int .i64 number] 83)
 have hcl : ∀ j v, (vrC (kind, step, number))[j]? = some v -> (w.alloc (.cells #[.int .i64 kind, .int .i64 step, .int .i64 number] 83)).cell? ⟨w.heap.size, j, none⟩ = some v := fun j v hj => by
  have := (Blk.new w 83 #[.int .i64 kind, .int .i64 step, .int .i64 number]).cell j
  rw [this]
  simpa [vrC] using hj
 have HB := Hd hB
 replace ho := Hd ho; replace hcl := Hd hcl; replace h2 := Hd h2; replace h3 := Hd h3; replace h4 := Hd h4; replace h5 := Hd h5; replace h1 := Hd h1
 clear hB
 go_enter Tryz.func65, Tryz.ntmps65
 go_wp2_with (at_builtin; go_must (refine wpList_append_1 (B := gB + 1) rfl (.tmp 14) (.tmp 19) 56 rfl Tryz.underlying56 infoVr rfl (by omega) (by omega) vrC_len va vc rfl ho.out (kind, step, number) (vrC_one _) w.heap.size 1 rfl hcl.out (x.vars ++ [(kind, step, number)]) rfl (by simp; omega) (by simp; omega) ?_); intro va2 vc2 w2 ho2 hg2 ha2; have hz2 := (h2.out.alloc (.cells #[.int .i64 kind, .int .i64 step, .int .i64 number] 83)).under ho.out (Nat.lt_succ_self gB) hg2; have y0 := hz2.cell 0; have y1 := hz2.cell 1; have y2 := hz2.cell 2; have f1 := hz2.frozen 1)
 have hne : ∀ g, ra = some g -> Value.ownBlock (.slice va x.vars.length vc) ≠ some g.block := fun g hg e => by
  cases hv : va with
  | none => rw [hv] at e; simp [Value.ownBlock] at e
  | some g' =>
   rw [hv] at e
   simp [Value.ownBlock] at e
   exact own_apart h3.out h4.out (by decide) g g' hg hv e.symm
 have hco2 : OwnCo (gB + 1) w2 ra rc hs := (h3.out.alloc _).grown hg2 hne
 have hfr1 : Fr (Yb gB ra va) w w2 := ((Fr.refl (Yb gB ra va) w).alloc _).grown hg2 fun g hg => .inl (.inr (.inr ⟨g, hg, rfl⟩))
 have hva2 : ∀ g, va2 = some g -> va = some g \/ w.heap.size <= g.block := fun g hg => by
  obtain ⟨g', e1, e2⟩ := ha2
  rw [e1] at hg
  injection hg with hg
  subst hg
  rcases e2 with e2 | e2
  · exact .inl e2
  · right; simp at e2; show _ <= g'; omega
 have hYm := yz_move (Z := Z) (ra := ra) (gB := gB) hva2
 have hfr3 : Fr (Yb gB ra va) w (w2.setCell ⟨gB, 1, none⟩ (.slice va2 (x.vars.length + 1) vc2)) := hfr1.setc (.inl (.inl rfl))
 have hB3 : Bst Z (w2.setCell ⟨gB, 1, none⟩ (.slice va2 (x.vars.length + 1) vc2)) gB ⟨x.vars ++ [(kind, step, number)], x.coords, x.free⟩ hs ra rc va2 vc2 := by
  refine ⟨h1.out, ?_, hco2.far (Nat.lt_succ_self gB) _, ho2.far (Nat.lt_succ_self gB) _, fun z hz => (h5.out z hz).move hYm (hfr3.mono fun b hb => .inl hb)⟩
  have := hz2.set_ 1 (.slice va2 (x.vars.length + 1) vc2)
  simpa using this
 have hrl : x.vars.length + 1 - 1 = x.vars.length := by omega
 replace hB3 := Hd hB3; replace hfr3 := Hd hfr3; replace hva2 := Hd hva2
 clear hg2 ha2 hfr1 hco2 ho2 hne y0 y1 y2 f1 hz2 hYm hrl
 refine calls_gen (fun W => Bst Z W gB ⟨x.vars ++ [(kind, step, number)], x.coords, x.free⟩ hs ra rc va2 vc2 /\ Fr (Yb gB ra va) w W) ⟨hB3.out, hfr3.out⟩ ?_
 rintro w3 ⟨hB4, hfr4⟩
 refine (varS_p (Yz Z gB ra va2) x.vars.length w3 (fun b hb => hb.elim (hB4.lt b) fun hz => ltl (hZ b hz) hfr4.size) (by omega)).mono ?_
 rintro e w4 ⟨a, c, rfl, hP, hb⟩
 have hB5 := hB4.call hb
 have hfr5 := hfr4.call hb
 replace hP := Hd hP; replace hB5 := Hd hB5
 go_wp2
 go_ret
 exact ⟨va2, vc2, a, c, rfl, hB5.out, hP.out, hfr5, hva2.out⟩
def nPar (vars : List Vr) : Nat := (vars.filter fun v => v.1 == 1).length
theorem nPar_take {vars : List Vr} {k : Nat} {v : Vr} (h : vars[k]? = some v) : nPar (vars.take (k + 1)) = nPar (vars.take k) + if v.1 = 1 then 1 else 0 := by
 unfold nPar
 rw [take_more h, List.filter_append, List.length_append]
 by_cases h1 : v.1 = 1 <;> simp [h1]
theorem nPar_le (vars : List Vr) : nPar vars <= vars.length := List.length_filter_le _ _
def twoK (k : Int) : Bool := decide (k = 12) || (decide (k = 13) || decide (k = 14))
theorem branchingS_any (k : Int) (w : World) : Calls Tryz.prog 17 #[.int .i64 k] w fun e w' => e = .returned (.bool (twoK k)) /\ w' = w := by
 go_enter Tryz.func17, Tryz.ntmps17
 by_cases h1 : k = 12
 ·
  subst h1
  go_wp2
  go_ret
  exact ⟨rfl, rfl⟩
 ·
  by_cases h2 : k = 13
  ·
   subst h2
   go_wp2
   go_ret
   exact ⟨rfl, rfl⟩
  ·
   go_wp2
   go_ret
   exact ⟨ret_bool (by rw [Bool.eq_iff_iff]; simp [twoK, or_assoc]), rfl⟩
theorem branchingR_any (k : Int) (w : World) : Calls Tryz.prog 41 #[.int .i64 k] w fun e w' => e = .returned (.bool (twoK k)) /\ w' = w := by
 go_enter Tryz.func41, Tryz.ntmps41
 by_cases h1 : k = 12
 ·
  subst h1
  go_wp2
  go_ret
  exact ⟨rfl, rfl⟩
 ·
  by_cases h2 : k = 13
  ·
   subst h2
   go_wp2
   go_ret
   exact ⟨rfl, rfl⟩
  ·
   go_wp2
   go_ret
   exact ⟨ret_bool (by rw [Bool.eq_iff_iff]; simp [twoK, or_assoc]), rfl⟩
def RetCh (t : Nat × Nat × Int) (w : World) (e : Ending) (w' : World) : Prop := e = .returned (.tuple #[.int .i64 t.1, .int .i64 t.2.1, .int .i64 t.2.2]) /\ Below w.heap.size w w'
theorem paramsS_any (vars : List Vr) (ra va : Option Addr) (B n rc vc : Nat) (w : World) (hv : OwnVr B w va vc vars) (hl : vars.length <= 1000) :
  Calls Tryz.prog 18 #[.agg #[.slice ra n rc, .slice va vars.length vc]] w fun e w' => (∃ a c, e = .returned (.slice a (nPar vars) c)) /\ Below w.heap.size w w' := by
 have HV := Hd hv
 clear hv
 go_enter Tryz.func18, Tryz.ntmps18
 go_wp2
 refine world_gen (fun W => Blk W w.heap.size 58 #[.slice ra n rc, .slice va vars.length vc] /\ Below w.heap.size w W) ⟨by ((with_reducible repeat first|assumption|(apply bF;focus omega)|apply bS|(apply bN;focus (simp;done))|apply bA|apply bD);all_goals rfl), by go_grown⟩ ?_
 rintro w1 ⟨h0, hw1⟩
 have x1 := h0.cell 1
 go_wp2
 go_loopg [3, 4, 5, 9] vars.length (fun m out _ _ idx wr => ∃ (k : Nat) (a : Option Addr) (c : Nat) (l : List Int), Hid (k + m = vars.length) /\ out = .slice a l.length c /\ idx = .int .i64 k /\ Hid (OwnI w.heap.size wr a c l) /\ Hid (l.length = nPar (vars.take k)) /\ Below w.heap.size w wr)
 case atStart => exact ⟨0, none, 0, [], by show _ = _; omega, rfl, rfl, Own.nil, rfl, hw1⟩
 case round =>
  clear h0 hw1 x1
  obtain ⟨k, a, c, l, hm, rfl, rfl, hO, hlen, hwr⟩ := hrel
  by_cases hlt : k < vars.length
  ·
   obtain ⟨v, hvk⟩ := get_of_lt hlt
   obtain ⟨vb, rfl, _, _, hc⟩ := (HV.out.below hwr).at_ vrC_len hvk
   have c0 : wr.cell? ⟨vb, k * 3, none⟩ = some (.int .i64 v.1) := by simpa using hc 0 _ rfl
   have c1 := hc 1 _ rfl
   have c2 := hc 2 _ rfl
   have hvb : vb < wr.heap.size := World.block_lt_of_cell? wr _ c0
   have hn := nPar_take hvk
   have hle := nPar_le (vars.take k)
   rw [List.length_take] at hle
   have hll : l.length <= 1000 := by rw [hlen.out]; omega
   replace hvk := Hd hvk; replace hn := Hd hn; replace hle := Hd hle
   by_cases hv1 : v.1 = 1
   ·
    have hvd : (v.1 == 1) = true := by simpa using hv1
    replace hv1 := Hd hv1
    clear hc
    go_wp2_with (at_builtin; go_must (refine world_gen (fun W => Blk W (wr.heap.size + 1) 3 #[.int .i64 k] /\ Below wr.heap.size wr W) ⟨by ((with_reducible repeat first|assumption|(apply bF;focus omega)|apply bS|(apply bN;focus (simp;done))|apply bA|apply bD);all_goals rfl), by go_grown⟩ ?_); rintro w2 ⟨hr, hb2⟩; have hO2 := hO.out.below hb2; go_must (refine append_int rfl (.tmp 17) (.tmp 19) rfl a c rfl hO2 (k : Int) (wr.heap.size + 1) 1 rfl (hr.cell 0) (l ++ [(k : Int)]) rfl (by simp; omega) (by have := hwr.size; have := hb2.size; omega) ?_); intro a3 c3 w3 ho3 hg3 ha3; have hb3 := below_append' (bth hwr hb2) hO2 hg3; replace hO2 := Hd hO2; replace ho3 := Hd ho3; replace hb3 := Hd hb3; clear hr hb2 hg3 ha3)
    go_roundg (gk - 1)
    case rel => exact ⟨k + 1, a3, c3, l ++ [(k : Int)], by have := hm.out; show _ = _; omega, by simp, by go_num, ho3.out, by show _ = _; rw [hn.out, if_pos hv1.out, <- hlen.out]; simp, hb3.out⟩
    case measure => have := hm.out; omega
   ·
    have hvd : (v.1 == 1) = false := by simpa using hv1
    replace hv1 := Hd hv1
    clear hc
    go_wp2
    go_roundg (gk - 1)
    case rel => exact ⟨k + 1, a, c, l, by have := hm.out; show _ = _; omega, rfl, by go_num, hO.out.alloc _, by show _ = _; rw [hn.out, if_neg hv1.out, <- hlen.out]; rfl, hwr.alloc hwr.size _⟩
    case measure => have := hm.out; omega
  ·
   have hk : l.length = nPar vars := by rw [hlen.out, List.take_of_length_le (by omega)]
   replace hk := Hd hk
   go_wp2
   go_ret
   exact ⟨⟨a, c, by rw [<- hk.out]; rfl⟩, hwr⟩
theorem paramsR_any (vars : List Vr) (ra va : Option Addr) (B n rc vc : Nat) (w : World) (hv : OwnVr B w va vc vars) (hl : vars.length <= 1000) :
  Calls Tryz.prog 42 #[.agg #[.slice ra n rc, .slice va vars.length vc]] w fun e w' => (∃ a c, e = .returned (.slice a (nPar vars) c)) /\ Below w.heap.size w w' := by
 have HV := Hd hv
 clear hv
 go_enter Tryz.func42, Tryz.ntmps42
 go_wp2
 refine world_gen (fun W => Blk W w.heap.size 58 #[.slice ra n rc, .slice va vars.length vc] /\ Below w.heap.size w W) ⟨by ((with_reducible repeat first|assumption|(apply bF;focus omega)|apply bS|(apply bN;focus (simp;done))|apply bA|apply bD);all_goals rfl), by go_grown⟩ ?_
 rintro w1 ⟨h0, hw1⟩
 have x1 := h0.cell 1
 go_wp2
 go_loopg [3, 4, 5, 9] vars.length (fun m out _ _ idx wr => ∃ (k : Nat) (a : Option Addr) (c : Nat) (l : List Int), Hid (k + m = vars.length) /\ out = .slice a l.length c /\ idx = .int .i64 k /\ Hid (OwnI w.heap.size wr a c l) /\ Hid (l.length = nPar (vars.take k)) /\ Below w.heap.size w wr)
 case atStart => exact ⟨0, none, 0, [], by show _ = _; omega, rfl, rfl, Own.nil, rfl, hw1⟩
 case round =>
  clear h0 hw1 x1
  obtain ⟨k, a, c, l, hm, rfl, rfl, hO, hlen, hwr⟩ := hrel
  by_cases hlt : k < vars.length
  ·
   obtain ⟨v, hvk⟩ := get_of_lt hlt
   obtain ⟨vb, rfl, _, _, hc⟩ := (HV.out.below hwr).at_ vrC_len hvk
   have c0 : wr.cell? ⟨vb, k * 3, none⟩ = some (.int .i64 v.1) := by simpa using hc 0 _ rfl
   have c1 := hc 1 _ rfl
   have c2 := hc 2 _ rfl
   have hvb : vb < wr.heap.size := World.block_lt_of_cell? wr _ c0
   have hn := nPar_take hvk
   have hle := nPar_le (vars.take k)
   rw [List.length_take] at hle
   have hll : l.length <= 1000 := by rw [hlen.out]; omega
   replace hvk := Hd hvk; replace hn := Hd hn; replace hle := Hd hle
   by_cases hv1 : v.1 = 1
   ·
    have hvd : (v.1 == 1) = true := by simpa using hv1
    replace hv1 := Hd hv1
    clear hc
    go_wp2_with (at_builtin; go_must (refine world_gen (fun W => Blk W (wr.heap.size + 1) 3 #[.int .i64 k] /\ Below wr.heap.size wr W) ⟨by ((with_reducible repeat first|assumption|(apply bF;focus omega)|apply bS|(apply bN;focus (simp;done))|apply bA|apply bD);all_goals rfl), by go_grown⟩ ?_); rintro w2 ⟨hr, hb2⟩; have hO2 := hO.out.below hb2; go_must (refine append_int rfl (.tmp 17) (.tmp 19) rfl a c rfl hO2 (k : Int) (wr.heap.size + 1) 1 rfl (hr.cell 0) (l ++ [(k : Int)]) rfl (by simp; omega) (by have := hwr.size; have := hb2.size; omega) ?_); intro a3 c3 w3 ho3 hg3 ha3; have hb3 := below_append' (bth hwr hb2) hO2 hg3; replace hO2 := Hd hO2; replace ho3 := Hd ho3; replace hb3 := Hd hb3; clear hr hb2 hg3 ha3)
    go_roundg (gk - 1)
    case rel => exact ⟨k + 1, a3, c3, l ++ [(k : Int)], by have := hm.out; show _ = _; omega, by simp, by go_num, ho3.out, by show _ = _; rw [hn.out, if_pos hv1.out, <- hlen.out]; simp, hb3.out⟩
    case measure => have := hm.out; omega
   ·
    have hvd : (v.1 == 1) = false := by simpa using hv1
    replace hv1 := Hd hv1
    clear hc
    go_wp2
    go_roundg (gk - 1)
    case rel => exact ⟨k + 1, a, c, l, by have := hm.out; show _ = _; omega, rfl, by go_num, hO.out.alloc _, by show _ = _; rw [hn.out, if_neg hv1.out, <- hlen.out]; rfl, hwr.alloc hwr.size _⟩
    case measure => have := hm.out; omega
  ·
   have hk : l.length = nPar vars := by rw [hlen.out, List.take_of_length_le (by omega)]
   replace hk := Hd hk
   go_wp2
   go_ret
   exact ⟨⟨a, c, by rw [<- hk.out]; rfl⟩, hwr⟩
end Go.Proofs.YtdnblkklgdnapaaGreat
