/- The row of the law RefuteChoices: for each input the call returns true, and each argument reads behind the call as it read before. Condition: the arguments hold together at most 1048576 values and letters. -/
import Derived.Test.YtdnblkklgdnapaaGreatRc17
import Derived.Test.YtdnblkklgdnapaaGreatRc28
import Derived.Test.YtdnblkklgdnapaaGreatRc1
import Derived.Test.YtdnblkklgdnapaaGreatRows
import Derived.Test.YtdnblkklgdnapaaGreatRc10
import Derived.Test.YtdnblkklgdnapaaGreatRc18
import Derived.JoinedCond
import Derived.ChangeMaps5
set_option linter.all false
set_option maxRecDepth 100000
set_option maxHeartbeats 4000000
namespace Go.Proofs.YtdnblkklgdnapaaGreat
open Go.RowKit
def nTwo (l : List Step) : Nat := (l.filter fun s => twoK s.kind).length
theorem nTwo_take {l : List Step} {k : Nat} {s : Step} (h : l[k]? = some s) : nTwo (l.take (k + 1)) = nTwo (l.take k) + if twoK s.kind = true then 1 else 0 := by
 unfold nTwo
 rw [take_more h, List.filter_append, List.length_append]
 by_cases h1 : twoK s.kind = true <;> simp [h1]
theorem nTwo_le (l : List Step) : nTwo l <= l.length := List.length_filter_le _ _
def chF (f : Fig) : Nat × Nat × Int :=
 if f.err = 0 then match stepsF ⟨[], [], 0⟩ 0 f.steps with
  | some x => (nPar x.vars, nTwo f.steps, 0)
  | none => (0, 0, 4)
 else (0, 0, f.err)
theorem stepsF_vars : ∀ (l : List Step) (x y : Frm) (i : Nat), x.vars.length <= 64 -> stepsF x i l = some y -> y.vars.length <= 64
 | [], x, y, i, h, e => by simp [stepsF] at e; subst e; exact h
 | s :: r, x, y, i, h, e => by
  rw [stepsF] at e
  split at e
  · cases e
  ·
   next hb =>
   refine stepsF_vars r _ y (i + 1) ?_ e
   unfold bigF at hb
   simp only [Bool.or_eq_true, decide_eq_true_eq] at hb
   show (nextF x s.kind s.args s.ratio.q i).1.length <= 64
   omega
theorem cooOf_err (f : Fig) (sa : Option Addr) (sc : Nat) (ga : Option Addr) (gc : Nat) (w : World) (h : FigR w sa sc ga gc f) (hq : f.few) (he : f.err ≠ 0) :
  Calls Tryz.prog 16 #[f.val sa sc ga gc] w fun e w' => Below w.heap.size w w' /\ e = .returned (.tuple #[.agg #[.slice none 0 0, .slice none 0 0], .int .i64 f.err]) := by
 have C := fun W (hW : Below w.heap.size w W) => rightL_any f sa sc ga gc W ⟨h.1.ext (xbw hW), h.2.ext (xbw hW)⟩ hq
 obtain ⟨er, her⟩ : ∃ er, er = f.err := ⟨_, rfl⟩
 rw [<- her] at C he ⊢
 have hne : (er != 0) = true := by simpa using he
 unfold Fig.val at C ⊢
 replace C := Hd C; replace her := Hd her; replace he := Hd he
 clear h hq
 go_enter Tryz.func16, Tryz.ntmps16
 go_wp2_with fail
 refine calls_gen (fun W => Blk W (w.heap.size + 1) 58 #[.slice none 0 0, .slice none 0 0] /\ Below w.heap.size w W) ⟨by ((with_reducible repeat first|assumption|(apply bF;focus omega)|apply bS|(apply bN;focus (simp;done))|apply bA|apply bD);all_goals rfl), by go_grown⟩ ?_
 rintro w0 ⟨hz, hw0⟩
 refine (C.out w0 hw0).mono ?_
 rintro e w1 ⟨rfl, hb1⟩
 have hw1 := bth hw0 hb1
 replace hz := hz.below' hb1
 have y0 := hz.cell 0; have y1 := hz.cell 1; have f0 := hz.frozen 0; have f1 := hz.frozen 1; have zl := hz.lt
 clear hw0 hb1 C
 go_wp2
 refine world_gen (fun W => Blk W (w.heap.size + 1) 58 #[.slice none 0 0, .slice none 0 0] /\ Below w.heap.size w W) ⟨by ((with_reducible repeat first|assumption|(apply bF;focus omega)|apply bS|(apply bN;focus (simp;done))|apply bA|apply bD);all_goals rfl), by go_grown⟩ ?_
 rintro wF ⟨hF4, hwF⟩
 have e0 := hF4.cell 0; have e1 := hF4.cell 1
 refine bodyPost_ret (v := .tuple #[.agg #[.slice none 0 0, .slice none 0 0], .int .i64 er]) (by simp [results, Tryz.results16, go_sem, e0, e1]) rfl ?_
 exact ⟨hwF, rfl⟩
theorem corOf_err (f : Fig) (sa : Option Addr) (sc : Nat) (ga : Option Addr) (gc : Nat) (w : World) (h : FigR w sa sc ga gc f) (hq : f.few) (he : f.err ≠ 0) :
  Calls Tryz.prog 40 #[f.val sa sc ga gc] w fun e w' => Below w.heap.size w w' /\ e = .returned (.tuple #[.agg #[.slice none 0 0, .slice none 0 0], .int .i64 f.err]) := by
 have C := fun W (hW : Below w.heap.size w W) => right20_any f sa sc ga gc W ⟨h.1.ext (xbw hW), h.2.ext (xbw hW)⟩ hq
 obtain ⟨er, her⟩ : ∃ er, er = f.err := ⟨_, rfl⟩
 rw [<- her] at C he ⊢
 have hne : (er != 0) = true := by simpa using he
 unfold Fig.val at C ⊢
 replace C := Hd C; replace her := Hd her; replace he := Hd he
 clear h hq
 go_enter Tryz.func40, Tryz.ntmps40
 go_wp2_with fail
 refine calls_gen (fun W => Blk W (w.heap.size + 1) 58 #[.slice none 0 0, .slice none 0 0] /\ Below w.heap.size w W) ⟨by ((with_reducible repeat first|assumption|(apply bF;focus omega)|apply bS|(apply bN;focus (simp;done))|apply bA|apply bD);all_goals rfl), by go_grown⟩ ?_
 rintro w0 ⟨hz, hw0⟩
 refine (C.out w0 hw0).mono ?_
 rintro e w1 ⟨rfl, hb1⟩
 have hw1 := bth hw0 hb1
 replace hz := hz.below' hb1
 have y0 := hz.cell 0; have y1 := hz.cell 1; have f0 := hz.frozen 0; have f1 := hz.frozen 1; have zl := hz.lt
 clear hw0 hb1 C
 go_wp2
 refine world_gen (fun W => Blk W (w.heap.size + 1) 58 #[.slice none 0 0, .slice none 0 0] /\ Below w.heap.size w W) ⟨by ((with_reducible repeat first|assumption|(apply bF;focus omega)|apply bS|(apply bN;focus (simp;done))|apply bA|apply bD);all_goals rfl), by go_grown⟩ ?_
 rintro wF ⟨hF4, hwF⟩
 have e0 := hF4.cell 0; have e1 := hF4.cell 1
 refine bodyPost_ret (v := .tuple #[.agg #[.slice none 0 0, .slice none 0 0], .int .i64 er]) (by simp [results, Tryz.results40, go_sem, e0, e1]) rfl ?_
 exact ⟨hwF, rfl⟩
theorem choicesS_bad (f : Fig) (er : Int) (sa : Option Addr) (sc : Nat) (ga : Option Addr) (gc : Nat) (w : World) (hne : (er != 0) = true)
  (C : ∀ W, Below w.heap.size w W -> Calls Tryz.prog 16 #[f.val sa sc ga gc] W fun e w' => Below W.heap.size W w' /\ e = .returned (.tuple #[.agg #[.slice none 0 0, .slice none 0 0], .int .i64 er])) :
  Calls Tryz.prog 7 #[f.val sa sc ga gc] w (RetCh (0, 0, er) w) := by
 unfold Fig.val at C ⊢
 replace C := Hd C
 go_enter Tryz.func7, Tryz.ntmps7
 go_wp2_with fail
 refine calls_gen (fun W => Below w.heap.size w W) (by go_grown) ?_
 intro w0 hw0
 refine (C.out w0 hw0).mono ?_
 rintro e w1 ⟨hb1, rfl⟩
 have hw1 := bth hw0 hb1
 clear hw0 hb1 C
 go_wp2
 refine bodyPost_ret (v := .tuple #[.int .i64 0, .int .i64 0, .int .i64 er]) (by simp [results, Tryz.results7, go_sem]) rfl ?_
 exact ⟨rfl, hw1.alloc hw1.size _⟩
theorem choicesR_bad (f : Fig) (er : Int) (sa : Option Addr) (sc : Nat) (ga : Option Addr) (gc : Nat) (w : World) (hne : (er != 0) = true)
  (C : ∀ W, Below w.heap.size w W -> Calls Tryz.prog 40 #[f.val sa sc ga gc] W fun e w' => Below W.heap.size W w' /\ e = .returned (.tuple #[.agg #[.slice none 0 0, .slice none 0 0], .int .i64 er])) :
  Calls Tryz.prog 22 #[f.val sa sc ga gc] w (RetCh (0, 0, er) w) := by
 unfold Fig.val at C ⊢
 replace C := Hd C
 go_enter Tryz.func22, Tryz.ntmps22
 go_wp2_with fail
 refine calls_gen (fun W => Below w.heap.size w W) (by go_grown) ?_
 intro w0 hw0
 refine (C.out w0 hw0).mono ?_
 rintro e w1 ⟨hb1, rfl⟩
 have hw1 := bth hw0 hb1
 clear hw0 hb1 C
 go_wp2
 refine bodyPost_ret (v := .tuple #[.int .i64 0, .int .i64 0, .int .i64 er]) (by simp [results, Tryz.results22, go_sem]) rfl ?_
 exact ⟨rfl, hw1.alloc hw1.size _⟩
theorem choicesS_good (x : Frm) (steps : List Step) (goals : List Fct) (sa : Option Addr) (sc : Nat) (ga : Option Addr) (gc : Nat) (w : World) (hS : StepsR w sa sc steps) (hsl : steps.length <= 100) (hxl : x.vars.length <= 64)
  (C : ∀ W, Below w.heap.size w W -> Calls Tryz.prog 16 #[.agg #[.slice sa steps.length sc, .slice ga goals.length gc]] W fun e w' => Below W.heap.size W w' /\ RetFrm (fun _ => False) x e w') :
  Calls Tryz.prog 7 #[.agg #[.slice sa steps.length sc, .slice ga goals.length gc]] w (RetCh (nPar x.vars, nTwo steps, 0) w) := by
 have HS := Hd hS
 replace C := Hd C
 obtain ⟨np, hnp⟩ : ∃ n, n = nPar x.vars := ⟨_, rfl⟩
 have hnp64 : np <= 64 := by have := nPar_le x.vars; omega
 rw [<- hnp]
 replace hnp := Hd hnp
 clear hS
 go_enter Tryz.func7, Tryz.ntmps7
 go_wp2_with fail
 refine calls_gen (fun W => Blk W w.heap.size 25 #[.slice sa steps.length sc, .slice ga goals.length gc] /\ Below w.heap.size w W) ⟨by ((with_reducible repeat first|assumption|(apply bF;focus omega)|apply bS|(apply bN;focus (simp;done))|apply bA|apply bD);all_goals rfl), by go_grown⟩ ?_
 rintro w0 ⟨h0, hw0⟩
 refine (C.out w0 hw0).mono ?_
 rintro e w1 ⟨hb1, hs, ra, va, rc, vc, B, rfl, _, _, hvr, _⟩
 have hw1 := bth hw0 hb1
 replace h0 := h0.below' hb1
 replace hvr := Hd hvr
 have k0 := h0.cell 0; have k1 := h0.cell 1; have kl := h0.lt
 clear hw0 hb1 C
 go_wp2
 refine world_gen (fun W => Blk W w.heap.size 25 #[.slice sa steps.length sc, .slice ga goals.length gc] /\ Blk W w1.heap.size 58 #[.slice ra hs.length rc, .slice va x.vars.length vc] /\ Below w1.heap.size w1 W) (by refine ⟨?_,?_,?_⟩<;>first|((with_reducible repeat first|assumption|(apply bF;focus omega)|apply bS|(apply bN;focus (simp;done))|apply bA|apply bD);all_goals rfl)|go_grown) ?_
 rintro w2 ⟨h2, hF, hb2⟩
 have hw2 := bth hw1 hb2
 have hvr2 := Hd (hvr.out.below hb2)
 have z0 := h2.cell 0; have z1 := h2.cell 1
 obtain ⟨gF, hgF⟩ : ∃ g, g = w1.heap.size := ⟨_, rfl⟩
 rw [<- hgF] at hF ⊢
 replace hgF := Hd hgF
 clear h0 k0 k1 kl hb2 hvr hw1
 go_wp2
 go_loopg [3, 7, 19] steps.length (fun m ct _ q wr => ∃ k : Nat, Hid (k + m = steps.length) /\ ct = .int .i64 (nTwo (steps.take k)) /\ q = .int .i64 k /\ Below w2.heap.size w2 wr)
 case atStart => exact ⟨0, by show _ = _; omega, rfl, rfl, Below.refl _ _⟩
 case round =>
  obtain ⟨k, hm, rfl, rfl, hwr⟩ := hrel
  have hz2 := h2.below' hwr
  have z0 := hz2.cell 0; have z1 := hz2.cell 1; have zl := hz2.lt
  have hw2r := bth hw2 hwr
  by_cases hlt : k < steps.length
  ·
   obtain ⟨s, hs_⟩ := get_of_lt hlt
   obtain ⟨b, o, rfl, p, hC, hP, hin, hsz⟩ := HS.out.2.2 k s hs_
   have hl0 := HS.out.len
   obtain ⟨c0, c1, c2, c3, c4, c5⟩ := hC
   have d0 := held c0 wr hw2r; have d1 := held c1 wr hw2r; have d2 := held c2 wr hw2r; have d3 := held c3 wr hw2r; have d4 := held c4 wr hw2r; have d5 := held c5 wr hw2r
   have hbl : b < wr.heap.size := World.block_lt_of_cell? wr _ d0
   have hn := nTwo_take hs_
   have hle := nTwo_le (steps.take k)
   rw [List.length_take] at hle
   replace hs_ := Hd hs_; replace hn := Hd hn; replace hP := Hd hP; replace hin := Hd hin
   have BR := fun W => branchingS_any s.kind W
   replace BR := Hd BR
   clear c0 c1 c2 c3 c4 c5 hz2
   go_wp2_with fail
   refine calls_gen (fun W => Below wr.heap.size wr W) (by go_grown) ?_
   intro w3 hb3
   refine (BR.out w3).mono ?_
   rintro e w4 ⟨rfl, rfl⟩
   have hnx := Hd (bth hwr hb3)
   clear BR d0 d1 d2 d3 d4 d5 z0 z1 hb3
   by_cases h2k : twoK s.kind = true
   ·
    rw [h2k]
    have hn2 := hn.out
    rw [if_pos h2k] at hn2
    replace hn2 := Hd hn2
    clear h2k
    go_wp2
    go_roundg (gk - 1)
    case rel => exact ⟨k + 1, by have := hm.out; show _ = _; omega, congrArg _ (by rw [hn2.out]; simp), by go_num, hnx.out⟩
    case measure => have := hm.out; omega
   ·
    have h2f : twoK s.kind = false := by simpa using h2k
    rw [h2f]
    have hn2 := hn.out
    rw [if_neg h2k] at hn2
    replace hn2 := Hd hn2
    clear h2k h2f
    go_wp2
    go_roundg (gk - 1)
    case rel => exact ⟨k + 1, by have := hm.out; show _ = _; omega, congrArg _ (by rw [hn2.out]; simp), by go_num, hnx.out⟩
    case measure => have := hm.out; omega
  ·
   have hk : k = steps.length := by have := hm.out; omega
   have htk : nTwo (steps.take k) = nTwo steps := by rw [hk, List.take_length]
   rw [htk]
   have hF3 := hF.below' hwr
   have x0 := hF3.cell 0; have x1 := hF3.cell 1; have xl := hF3.lt
   have CP := paramsS_any x.vars ra va B hs.length rc vc wr (hvr2.out.below hwr) (by omega)
   rw [<- hnp.out] at CP
   replace CP := Hd CP; replace htk := Hd htk
   clear hF3 hk hz2
   go_wp2_with fail
   refine CP.out.mono ?_
   rintro e w5 ⟨⟨a5, c5, rfl⟩, hb5⟩
   have hw5 := bth hw2r hb5
   clear CP x0 x1 xl hb5 z0 z1 zl
   go_wp2
   refine bodyPost_ret (v := .tuple #[.int .i64 np, .int .i64 (nTwo steps), .int .i64 0]) (by simp [results, Tryz.results7, go_sem]) rfl ?_
   exact ⟨rfl, hw5⟩
theorem choicesR_good (x : Frm) (steps : List Step) (goals : List Fct) (sa : Option Addr) (sc : Nat) (ga : Option Addr) (gc : Nat) (w : World) (hS : StepsR w sa sc steps) (hsl : steps.length <= 100) (hxl : x.vars.length <= 64)
  (C : ∀ W, Below w.heap.size w W -> Calls Tryz.prog 40 #[.agg #[.slice sa steps.length sc, .slice ga goals.length gc]] W fun e w' => Below W.heap.size W w' /\ RetFrm (fun _ => False) x e w') :
  Calls Tryz.prog 22 #[.agg #[.slice sa steps.length sc, .slice ga goals.length gc]] w (RetCh (nPar x.vars, nTwo steps, 0) w) := by
 have HS := Hd hS
 replace C := Hd C
 obtain ⟨np, hnp⟩ : ∃ n, n = nPar x.vars := ⟨_, rfl⟩
 have hnp64 : np <= 64 := by have := nPar_le x.vars; omega
 rw [<- hnp]
 replace hnp := Hd hnp
 clear hS
 go_enter Tryz.func22, Tryz.ntmps22
 go_wp2_with fail
 refine calls_gen (fun W => Blk W w.heap.size 25 #[.slice sa steps.length sc, .slice ga goals.length gc] /\ Below w.heap.size w W) ⟨by ((with_reducible repeat first|assumption|(apply bF;focus omega)|apply bS|(apply bN;focus (simp;done))|apply bA|apply bD);all_goals rfl), by go_grown⟩ ?_
 rintro w0 ⟨h0, hw0⟩
 refine (C.out w0 hw0).mono ?_
 rintro e w1 ⟨hb1, hs, ra, va, rc, vc, B, rfl, _, _, hvr, _⟩
 have hw1 := bth hw0 hb1
 replace h0 := h0.below' hb1
 replace hvr := Hd hvr
 have k0 := h0.cell 0; have k1 := h0.cell 1; have kl := h0.lt
 clear hw0 hb1 C
 go_wp2
 refine world_gen (fun W => Blk W w.heap.size 25 #[.slice sa steps.length sc, .slice ga goals.length gc] /\ Blk W w1.heap.size 58 #[.slice ra hs.length rc, .slice va x.vars.length vc] /\ Below w1.heap.size w1 W) (by refine ⟨?_,?_,?_⟩<;>first|((with_reducible repeat first|assumption|(apply bF;focus omega)|apply bS|(apply bN;focus (simp;done))|apply bA|apply bD);all_goals rfl)|go_grown) ?_
 rintro w2 ⟨h2, hF, hb2⟩
 have hw2 := bth hw1 hb2
 have hvr2 := Hd (hvr.out.below hb2)
 have z0 := h2.cell 0; have z1 := h2.cell 1
 obtain ⟨gF, hgF⟩ : ∃ g, g = w1.heap.size := ⟨_, rfl⟩
 rw [<- hgF] at hF ⊢
 replace hgF := Hd hgF
 clear h0 k0 k1 kl hb2 hvr hw1
 go_wp2
 go_loopg [7, 8] steps.length (fun m ct q wr => ∃ k : Nat, Hid (k + m = steps.length) /\ ct = .int .i64 (nTwo (steps.take k)) /\ q = .int .i64 k /\ Below w2.heap.size w2 wr)
 case atStart => exact ⟨0, by show _ = _; omega, rfl, rfl, Below.refl _ _⟩
 case round =>
  obtain ⟨k, hm, rfl, rfl, hwr⟩ := hrel
  have hz2 := h2.below' hwr
  have z0 := hz2.cell 0; have z1 := hz2.cell 1; have zl := hz2.lt
  have hw2r := bth hw2 hwr
  by_cases hlt : k < steps.length
  ·
   obtain ⟨s, hs_⟩ := get_of_lt hlt
   obtain ⟨b, o, rfl, p, hC, hP, hin, hsz⟩ := HS.out.2.2 k s hs_
   have hl0 := HS.out.len
   obtain ⟨c0, c1, c2, c3, c4, c5⟩ := hC
   have d0 := held c0 wr hw2r; have d1 := held c1 wr hw2r; have d2 := held c2 wr hw2r; have d3 := held c3 wr hw2r; have d4 := held c4 wr hw2r; have d5 := held c5 wr hw2r
   have hbl : b < wr.heap.size := World.block_lt_of_cell? wr _ d0
   have hn := nTwo_take hs_
   have hle := nTwo_le (steps.take k)
   rw [List.length_take] at hle
   replace hs_ := Hd hs_; replace hn := Hd hn; replace hP := Hd hP; replace hin := Hd hin
   have BR := fun W => branchingR_any s.kind W
   replace BR := Hd BR
   clear c0 c1 c2 c3 c4 c5 hz2
   go_wp2_with fail
   refine calls_gen (fun W => Below wr.heap.size wr W) (by go_grown) ?_
   intro w3 hb3
   refine (BR.out w3).mono ?_
   rintro e w4 ⟨rfl, rfl⟩
   have hnx := Hd (bth hwr hb3)
   clear BR d0 d1 d2 d3 d4 d5 z0 z1 hb3
   by_cases h2k : twoK s.kind = true
   ·
    rw [h2k]
    have hn2 := hn.out
    rw [if_pos h2k] at hn2
    replace hn2 := Hd hn2
    clear h2k
    go_wp2
    go_roundg (gk - 1)
    case rel => exact ⟨k + 1, by have := hm.out; show _ = _; omega, congrArg _ (by rw [hn2.out]; simp), by go_num, hnx.out⟩
    case measure => have := hm.out; omega
   ·
    have h2f : twoK s.kind = false := by simpa using h2k
    rw [h2f]
    have hn2 := hn.out
    rw [if_neg h2k] at hn2
    replace hn2 := Hd hn2
    clear h2k h2f
    go_wp2
    go_roundg (gk - 1)
    case rel => exact ⟨k + 1, by have := hm.out; show _ = _; omega, congrArg _ (by rw [hn2.out]; simp), by go_num, hnx.out⟩
    case measure => have := hm.out; omega
  ·
   have hk : k = steps.length := by have := hm.out; omega
   have htk : nTwo (steps.take k) = nTwo steps := by rw [hk, List.take_length]
   rw [htk]
   have hF3 := hF.below' hwr
   have x0 := hF3.cell 0; have x1 := hF3.cell 1; have xl := hF3.lt
   have CP := paramsR_any x.vars ra va B hs.length rc vc wr (hvr2.out.below hwr) (by omega)
   rw [<- hnp.out] at CP
   replace CP := Hd CP; replace htk := Hd htk
   clear hF3 hk hz2
   go_wp2_with fail
   refine CP.out.mono ?_
   rintro e w5 ⟨⟨a5, c5, rfl⟩, hb5⟩
   have hw5 := bth hw2r hb5
   clear CP x0 x1 xl hb5 z0 z1 zl
   go_wp2
   refine bodyPost_ret (v := .tuple #[.int .i64 np, .int .i64 (nTwo steps), .int .i64 0]) (by simp [results, Tryz.results22, go_sem]) rfl ?_
   exact ⟨rfl, hw5⟩
theorem short_of {f : Fig} (he : f.err = 0) (hr : ∀ s ∈ f.steps, s.ratio.num.length <= 2 /\ s.ratio.den.length <= 2) : ∀ s ∈ f.steps, s.kind = 2 -> s.ratio.short = true := fun s hs hk => by
 obtain ⟨i, hi⟩ := List.getElem?_of_mem hs
 have h1 := ((fig_steps he).2 i s hi).2.2.2.2 hk
 exact Rt.short_iff.2 ⟨h1, hr s hs⟩
theorem chF_le (f : Fig) : (chF f).1 <= 64 /\ (chF f).2.1 <= 40 := by
 unfold chF
 by_cases he : f.err = 0
 ·
  rw [if_pos he]
  cases hs : stepsF ⟨[], [], 0⟩ 0 f.steps with
  | none => exact ⟨by simp, by simp⟩
  | some x =>
   have h1 := stepsF_vars f.steps _ x 0 (by simp) hs
   have h2 := nPar_le x.vars
   have h3 := nTwo_le f.steps
   have h4 := (fig_steps he).1
   exact ⟨by dsimp only; omega, by dsimp only; omega⟩
 ·
  rw [if_neg he]
  exact ⟨by simp, by simp⟩
theorem choicesS_any (f : Fig) (sa : Option Addr) (sc : Nat) (ga : Option Addr) (gc : Nat) (w : World) (h : FigR w sa sc ga gc f) (hq : f.few) (hr : ∀ s ∈ f.steps, s.ratio.num.length <= 2 /\ s.ratio.den.length <= 2) :
  Calls Tryz.prog 7 #[f.val sa sc ga gc] w (RetCh (chF f) w) := by
 unfold chF
 by_cases he : f.err = 0
 ·
  rw [if_pos he]
  have C := fun W (hW : Below w.heap.size w W) => cooOf_any (fun _ => False) f sa sc ga gc w W h hW hq he (fun b hb => hb.elim) (short_of he hr)
  cases hs : stepsF ⟨[], [], 0⟩ 0 f.steps with
  | none =>
   rw [hs] at C
   exact choicesS_bad f 4 sa sc ga gc w rfl C
  | some x =>
   rw [hs] at C
   exact choicesS_good x f.steps f.goals sa sc ga gc w h.1 (by have := (fig_steps he).1; omega) (stepsF_vars f.steps _ x 0 (by simp) hs) C
 ·
  rw [if_neg he]
  exact choicesS_bad f f.err sa sc ga gc w (by simpa using he) fun W hW => cooOf_err f sa sc ga gc W ⟨h.1.ext (xbw hW), h.2.ext (xbw hW)⟩ hq he
theorem choicesR_any (f : Fig) (sa : Option Addr) (sc : Nat) (ga : Option Addr) (gc : Nat) (w : World) (h : FigR w sa sc ga gc f) (hq : f.few) (hr : ∀ s ∈ f.steps, s.ratio.num.length <= 2 /\ s.ratio.den.length <= 2) :
  Calls Tryz.prog 22 #[f.val sa sc ga gc] w (RetCh (chF f) w) := by
 unfold chF
 by_cases he : f.err = 0
 ·
  rw [if_pos he]
  have C := fun W (hW : Below w.heap.size w W) => corOf_any (fun _ => False) f sa sc ga gc w W h hW hq he (fun b hb => hb.elim) (short_of he hr)
  cases hs : stepsF ⟨[], [], 0⟩ 0 f.steps with
  | none =>
   rw [hs] at C
   exact choicesR_bad f 4 sa sc ga gc w rfl C
  | some x =>
   rw [hs] at C
   exact choicesR_good x f.steps f.goals sa sc ga gc w h.1 (by have := (fig_steps he).1; omega) (stepsF_vars f.steps _ x 0 (by simp) hs) C
 ·
  rw [if_neg he]
  exact choicesR_bad f f.err sa sc ga gc w (by simpa using he) fun W hW => corOf_err f sa sc ga gc W ⟨h.1.ext (xbw hW), h.2.ext (xbw hW)⟩ hq he
theorem choices26_any (f : Fig) (sa : Option Addr) (sc : Nat) (ga : Option Addr) (gc : Nat) (w : World) (h : FigR w sa sc ga gc f) (hq : f.few) (hr : ∀ s ∈ f.steps, s.ratio.num.length <= 2 /\ s.ratio.den.length <= 2) :
  Calls Tryz.prog 10 #[f.val sa sc ga gc] w (RetCh (chF f) w) := by
 have C := fun W (hW : Below w.heap.size w W) => choicesR_any f sa sc ga gc W ⟨h.1.ext (xbw hW), h.2.ext (xbw hW)⟩ hq hr
 unfold Fig.val at C ⊢
 obtain ⟨t, ht⟩ : ∃ t, t = chF f := ⟨_, rfl⟩
 rw [<- ht] at C ⊢
 replace C := Hd C
 clear h hq hr ht
 go_enter Tryz.func10, Tryz.ntmps10
 go_wp2_with fail
 refine calls_gen (fun W => Below w.heap.size w W) (by go_grown) ?_
 intro w0 hw0
 refine (C.out w0 hw0).mono ?_
 rintro e w1 ⟨rfl, hb1⟩
 have hw1 := bth hw0 hb1
 clear hw0 hb1 C
 go_wp2
 refine bodyPost_ret (v := .tuple #[.int .i64 t.1, .int .i64 t.2.1, .int .i64 t.2.2]) (by simp [results, Tryz.results10, go_sem]) rfl ?_
 exact ⟨rfl, hw1⟩
end Go.Proofs.YtdnblkklgdnapaaGreat
namespace Go.Proofs.YtdnblkklgdnapaaGreat
open Go.ChangeShapes Go.WideShapes Go.ChangeAt Go.RowKit
theorem len2 {α : Type} {l : List α} (h : l.length = 2) : ∃ x0 x1, l = [x0, x1] := by
 match l, h with
 | [x0, x1], _ => exact ⟨x0, x1, rfl⟩
theorem len3 {α : Type} {l : List α} (h : l.length = 3) : ∃ x0 x1 x2, l = [x0, x1, x2] := by
 match l, h with
 | [x0, x1, x2], _ => exact ⟨x0, x1, x2, rfl⟩
theorem len4 {α : Type} {l : List α} (h : l.length = 4) : ∃ x0 x1 x2 x3, l = [x0, x1, x2, x3] := by
 match l, h with
 | [x0, x1, x2, x3], _ => exact ⟨x0, x1, x2, x3, rfl⟩
theorem len5 {α : Type} {l : List α} (h : l.length = 5) : ∃ x0 x1 x2 x3 x4, l = [x0, x1, x2, x3, x4] := by
 match l, h with
 | [x0, x1, x2, x3, x4], _ => exact ⟨x0, x1, x2, x3, x4, rfl⟩
theorem len6 {α : Type} {l : List α} (h : l.length = 6) : ∃ x0 x1 x2 x3 x4 x5, l = [x0, x1, x2, x3, x4, x5] := by
 match l, h with
 | [x0, x1, x2, x3, x4, x5], _ => exact ⟨x0, x1, x2, x3, x4, x5, rfl⟩
theorem list_choose {α β : Type} {p : Nat -> β -> α -> Prop} (l : List β) (h : ∀ i y, l[i]? = some y -> ∃ z, p i y z) :
  ∃ zs : List α, zs.length = l.length /\ ∀ (i : Nat) (z : α), zs[i]? = some z -> ∃ y, l[i]? = some y /\ p i y z := by
 induction l generalizing p with
 | nil => exact ⟨[], rfl, fun i z hz => by simp at hz⟩
 | cons x l ih =>
  obtain ⟨z0, h0⟩ := h 0 x rfl
  obtain ⟨zs, hl, hz⟩ := ih (p := fun i => p (i + 1)) (fun i y hy => h (i + 1) y (by simpa using hy))
  refine ⟨z0 :: zs, by simp [hl], fun i z hi => ?_⟩
  cases i with
  | zero => simp at hi; subst hi; exact ⟨x, rfl, h0⟩
  | succ i => simpa using hz i z (by simpa using hi)
theorem sum_le_bulk {H α : Type} (size : α -> Nat) : ∀ (ds : List (DataW H)) (zs : List α), zs.length = ds.length -> (∀ (i : Nat) (z : α) (d : DataW H), zs[i]? = some z -> ds[i]? = some d -> size z <= Rows.uptoBulk d) ->
  (zs.map size).sum <= Rows.uptoBulkAll ds
 | [], zs, hl, _ => by
  have : zs = [] := List.eq_nil_of_length_eq_zero (by simpa using hl)
  subst this; simp
 | d :: ds, [], hl, _ => by simp at hl
 | d :: ds, z :: zs, hl, h => by
  have h0 := h 0 z d rfl rfl
  have h1 := sum_le_bulk size ds zs (by simpa using hl) (fun i z d hz hd => h (i + 1) z d (by simpa using hz) (by simpa using hd))
  simp only [List.map_cons, List.sum_cons, Rows.uptoBulkAll]
  omega
section
variable {H : Type} {enc : TypeId × Value -> H} {P : Program} {W : World} {sp : Nat -> Bool} {held : Bool}
theorem open_sl {t e : TypeId} {sz fuel : Nat} {cs : List Value} {x : DataW H × List MemPlace} (ht : P.underlying t = some (.slice e)) (hc : P.cellsOf e = sz) (hs : 0 < sz)
  (h : DataW.trod enc P W 0 sp held fuel t cs = some x) {α : Type} (E : World -> Nat -> Nat -> α -> Prop) (size : α -> Nat)
  (conv : ∀ n cs' y b o, n < fuel -> DataW.trod enc P W 0 sp held n e cs' = some y -> cs'.length = sz -> (∀ j, j < sz -> W.cell? ⟨b, o + j, none⟩ = cs'[j]?) -> ∃ z, E W b o z /\ size z <= Rows.uptoBulk y.1) :
  ∃ (a : Option Addr) (cap : Nat) (zs : List α), cs = [.slice a zs.length cap] /\ SlR sz E W a cap zs /\ (zs.map size).sum + 1 <= Rows.uptoBulk x.1 := by
 rcases DataW.trod_slice ht h with ⟨rfl, rfl⟩ | ⟨a, len, cap, elems, rest, n, hn, rfl, rfl, _, hl, hm, hlen, hel, _, _⟩
 · exact ⟨none, 0, [], rfl, SlR.nil, by simp [Rows.uptoBulk]⟩
 ·
  rw [hc] at hel
  have key : ∀ i y, elems[i]? = some y -> ∃ z, (∃ b off, a = ⟨b, off, none⟩ /\ E W b (off + i * sz) z) /\ size z <= Rows.uptoBulk y.1 := by
   intro i y hy
   have hi : i < len := by rw [<- hlen]; exact lt_of_get hy
   have h1 := hel i hi
   rw [hy] at h1
   obtain ⟨cs', hcs, hty⟩ := Option.bind_eq_some_iff.1 h1
   obtain ⟨_, hl', hcell⟩ := World.cells?_some hcs
   have hspot : ∃ b off, a = ⟨b, off, none⟩ := by
    have h0 := hcell 0 hs
    rw [List.getElem?_eq_getElem (by omega)] at h0
    have := World.cell?_spot h0
    obtain ⟨b, off, spot⟩ := a
    by_cases hi0 : i * sz = 0
    ·
     simp [Addr.add, hi0] at this
     subst this
     exact ⟨b, off, rfl⟩
    ·
     have h2 := hel 0 (by omega)
     obtain ⟨y0, hy0⟩ := get_of_lt (xs := elems) (k := 0) (by omega)
     rw [hy0] at h2
     obtain ⟨cs0, hcs0, _⟩ := Option.bind_eq_some_iff.1 h2
     obtain ⟨_, hl0, hcell0⟩ := World.cells?_some hcs0
     have h3 := hcell0 0 hs
     rw [List.getElem?_eq_getElem (by omega)] at h3
     have := World.cell?_spot h3
     simp [Addr.add] at this
     subst this
     exact ⟨b, off, rfl⟩
   obtain ⟨b, off, rfl⟩ := hspot
   obtain ⟨z, hz, hsz⟩ := conv n cs' y b (off + i * sz) (by omega) hty hl' (fun j hj => by
    rw [<- hcell j hj, add_plain, add_plain])
   exact ⟨z, ⟨b, off, rfl, hz⟩, hsz⟩
  obtain ⟨zs, hzl, hz⟩ := list_choose (p := fun i y z => (∃ b off, a = ⟨b, off, none⟩ /\ E W b (off + i * sz) z) /\ size z <= Rows.uptoBulk y.1) elems key
  refine ⟨some a, cap, zs, by rw [hzl, hlen], ⟨by omega, hm, fun k z hk => ?_⟩, ?_⟩
  ·
   obtain ⟨y, hy, ⟨b, off, rfl, he⟩, _⟩ := hz k z hk
   exact ⟨b, off, rfl, he⟩
  ·
   have h1 := sum_le_bulk size (elems.map (·.1)) zs (by simpa using hzl) (fun i z d hzi hd => by
    obtain ⟨y, hy, _, hs⟩ := hz i z hzi
    rw [List.getElem?_map, hy] at hd
    simp at hd; subst hd; exact hs)
   simp only [Rows.uptoBulk]
   omega
end
theorem conv_int {H : Type} {enc : TypeId × Value -> H} {P : Program} {W : World} {sp : Nat -> Bool} {held : Bool} {e : TypeId} {k : IntKind} (he : P.underlying e = some (.int k)) (n : Nat) (cs' : List Value) (y : DataW H × List MemPlace) (b o : Nat)
  (h : DataW.trod enc P W 0 sp held n e cs' = some y) (hc : ∀ j, j < 1 -> W.cell? ⟨b, o + j, none⟩ = cs'[j]?) : ∃ z, IntE k W b o z /\ 1 <= Rows.uptoBulk y.1 := by
 obtain ⟨z, rfl, rfl, hw⟩ := DataW.trod_int he h
 exact ⟨z, ⟨by have := hc 0 (by omega); simpa using this, hw⟩, by simp [Rows.uptoBulk]⟩
end Go.Proofs.YtdnblkklgdnapaaGreat
namespace Go.Proofs.YtdnblkklgdnapaaGreat
open Go.ChangeShapes Go.WideShapes Go.ChangeAt Go.RowKit
theorem cellsRat : Tryz.prog.cellsOf 32 = 3 := by kernel_rfl
theorem cellsInt : Tryz.prog.cellsOf 30 = 2 := by kernel_rfl
theorem cellsNat : Tryz.prog.cellsOf 28 = 1 := by kernel_rfl
theorem cellsB : Tryz.prog.cellsOf 4 = 1 := by kernel_rfl
theorem cellsU16 : Tryz.prog.cellsOf 92 = 1 := by kernel_rfl
theorem list_sum_ones {α : Type} (l : List α) : (l.map fun _ => 1).sum = l.length := by induction l with
 | nil => rfl
 | cons x l ih => simp only [List.map_cons, List.sum_cons, ih, List.length_cons]; omega
section
variable {H : Type} {enc : TypeId × Value -> H} {W : World} {sp : Nat -> Bool} {held : Bool} {n : Nat}
theorem open_nat {cs : List Value} {y : DataW H × List MemPlace} (h : DataW.trod enc Tryz.prog W 0 sp held n 28 cs = some y) :
  ∃ a c zs, cs = [.slice a (List.length zs) c] /\ NatR W a c zs /\ zs.length + 1 <= Rows.uptoBulk y.1 := by
 obtain ⟨a, c, zs, h1, h2, h3⟩ := open_sl Tryz.underlying28 cellsU16 (by omega) h (IntE .u16) (fun _ => 1) (fun m cs' y b o _ ht _ hc => conv_int Tryz.underlying92 m cs' y b o ht hc)
 rw [list_sum_ones] at h3
 exact ⟨a, c, zs, h1, h2, h3⟩
theorem open_intst {cs : List Value} {y : DataW H × List MemPlace} (h : DataW.trod enc Tryz.prog W 0 sp held n 30 cs = some y) :
  ∃ b a c zs, cs = [.bool b, .slice a (List.length zs) c] /\ NatR W a c zs /\ zs.length + 2 <= Rows.uptoBulk y.1 := by
 obtain ⟨xs, m, rfl, rfl, hcl, hxl, hf⟩ := DataW.trod_struct Tryz.underlying30 h
 rw [cellsInt] at hcl
 obtain ⟨c0, c1, rfl⟩ := len2 hcl
 obtain ⟨y0, y1, rfl⟩ := len2 (show xs.length = 2 from hxl)
 ·
  have h0 := hf 0 _ rfl
  have h1 := hf 1 _ rfl
  simp [cellsB, cellsNat] at h0 h1
  obtain ⟨b, e0, rfl⟩ := DataW.trod_bool Tryz.underlying4 h0
  obtain ⟨a, c, zs, e1, h2, h3⟩ := open_nat h1
  simp at e0 e1; subst e0; subst e1
  refine ⟨b, a, c, zs, rfl, h2, ?_⟩
  simp [Rows.uptoBulk, Rows.uptoBulkAll] at h3 ⊢
  omega
theorem open_rat {cs : List Value} {y : DataW H × List MemPlace} (h : DataW.trod enc Tryz.prog W 0 sp held n 32 cs = some y) :
  ∃ b na nc num da dc den, cs = [.bool b, .slice na (List.length num) nc, .slice da (List.length den) dc] /\ NatR W na nc num /\ NatR W da dc den /\ num.length + den.length + 2 <= Rows.uptoBulk y.1 := by
 obtain ⟨xs, m, rfl, rfl, hcl, hxl, hf⟩ := DataW.trod_struct Tryz.underlying32 h
 rw [cellsRat] at hcl
 obtain ⟨c0, c1, c2, rfl⟩ := len3 hcl
 obtain ⟨y0, y1, rfl⟩ := len2 (show xs.length = 2 from hxl)
 ·
  have h0 := hf 0 _ rfl
  have h1 := hf 1 _ rfl
  simp [cellsInt, cellsNat] at h0 h1
  obtain ⟨b, na, nc, num, e0, h2, h3⟩ := open_intst h0
  obtain ⟨da, dc, den, e1, h4, h5⟩ := open_nat h1
  simp at e0 e1
  obtain ⟨rfl, rfl⟩ := e0
  subst e1
  refine ⟨b, na, nc, num, da, dc, den, rfl, h2, h4, ?_⟩
  simp [Rows.uptoBulk, Rows.uptoBulkAll] at h3 h5 ⊢
  omega
end
end Go.Proofs.YtdnblkklgdnapaaGreat
namespace Go.Proofs.YtdnblkklgdnapaaGreat
open Go.ChangeShapes Go.WideShapes Go.ChangeAt Go.RowKit
theorem cellsInts : Tryz.prog.cellsOf 26 = 1 := by kernel_rfl
theorem cellsI : Tryz.prog.cellsOf 3 = 1 := by kernel_rfl
theorem cellsS : Tryz.prog.cellsOf 9 = 1 := by kernel_rfl
section
variable {H : Type} {enc : TypeId × Value -> H} {W : World} {sp : Nat -> Bool} {held : Bool} {n : Nat}
theorem open_intsl {cs : List Value} {y : DataW H × List MemPlace} (h : DataW.trod enc Tryz.prog W 0 sp held n 26 cs = some y) :
  ∃ a c zs, cs = [.slice a (List.length zs) c] /\ IntsR W a c zs /\ zs.length + 1 <= Rows.uptoBulk y.1 := by
 obtain ⟨a, c, zs, h1, h2, h3⟩ := open_sl Tryz.underlying26 cellsI (by omega) h (IntE .i64) (fun _ => 1) (fun m cs' y b o _ ht _ hc => conv_int Tryz.underlying3 m cs' y b o ht hc)
 rw [list_sum_ones] at h3
 exact ⟨a, c, zs, h1, h2, h3⟩
end
end Go.Proofs.YtdnblkklgdnapaaGreat
namespace Go.Proofs.YtdnblkklgdnapaaGreat
open Go.ChangeShapes Go.WideShapes Go.ChangeAt Go.RowKit
def Rt.weight (r : Rt) : Nat := r.num.length + r.den.length
def Step.weight (s : Step) : Nat := s.point.size + s.args.length + s.ratio.weight + 1
def Fct.weight (s : Fct) : Nat := s.args.length + s.ratio.weight + 1
def Fig.weight (f : Fig) : Nat := (f.steps.map Step.weight).sum + (f.goals.map Fct.weight).sum
theorem le_sum_map {α : Type} (g : α -> Nat) {l : List α} {x : α} (h : x ∈ l) : g x <= (l.map g).sum := by
 induction l with
 | nil => cases h
 | cons y l ih =>
  simp only [List.map_cons, List.sum_cons]
  rcases List.mem_cons.1 h with rfl | h
  · omega
  · have := ih h; omega
theorem Fig.few_of {f : Fig} (h : f.weight <= 2000000) : f.few := by
 unfold Fig.weight at h
 refine ⟨fun s hs => ?_, fun s hs => ?_⟩
 ·
  have h1 := le_sum_map Step.weight hs
  have h2 : s.weight = s.point.size + s.args.length + (s.ratio.num.length + s.ratio.den.length) + 1 := rfl
  constructor <;> omega
 ·
  have h1 := le_sum_map Fct.weight hs
  have h2 : s.weight = s.args.length + (s.ratio.num.length + s.ratio.den.length) + 1 := rfl
  constructor <;> omega
theorem cellsStep : Tryz.prog.cellsOf 34 = 6 := by kernel_rfl
theorem cellsFct : Tryz.prog.cellsOf 101 = 5 := by kernel_rfl
theorem cellsFig : Tryz.prog.cellsOf 25 = 2 := by kernel_rfl
theorem cellsSteps : Tryz.prog.cellsOf 22 = 1 := by kernel_rfl
theorem cellsFcts : Tryz.prog.cellsOf 23 = 1 := by kernel_rfl
section
variable {H : Type} {enc : TypeId × Value -> H} {W : World} {sp : Nat -> Bool} {held : Bool}
theorem open_stepc {n : Nat} {cs : List Value} {y : DataW H × List MemPlace} (h : DataW.trod enc Tryz.prog W 0 sp held n 34 cs = some y) :
  ∃ (s : Step) (p : RA), cs = [.int .i64 s.kind, .string s.point, .slice p.aa s.args.length p.ac, .bool s.ratio.neg, .slice p.na s.ratio.num.length p.nc, .slice p.da s.ratio.den.length p.dc] /\ PartsR W p s.args s.ratio /\ InInt s.kind /\ s.point.size <= 9223372036854775807 /\ s.weight <= Rows.uptoBulk y.1 := by
 obtain ⟨xs, m, rfl, rfl, hcl, hxl, hf⟩ := DataW.trod_struct Tryz.underlying34 h
 rw [cellsStep] at hcl
 obtain ⟨c0, c1, c2, c3, c4, c5, rfl⟩ := len6 hcl
 obtain ⟨y0, y1, y2, y3, rfl⟩ := len4 (show xs.length = 4 from hxl)
 ·
  have h0 := hf 0 _ rfl
  have h1 := hf 1 _ rfl
  have h2 := hf 2 _ rfl
  have h3 := hf 3 _ rfl
  simp [cellsI, cellsS, cellsInts, cellsRat] at h0 h1 h2 h3
  obtain ⟨kind, e0, rfl, w0⟩ := DataW.trod_int Tryz.underlying3 h0
  obtain ⟨point, e1, rfl, w1⟩ := DataW.trod_string Tryz.underlying9 h1
  obtain ⟨aa, ac, args, e2, r2, w2⟩ := open_intsl h2
  obtain ⟨neg, na, nc, num, da, dc, den, e3, r3, r4, w3⟩ := open_rat h3
  simp at e0 e1 e2 e3
  obtain ⟨rfl, rfl, rfl⟩ := e3
  subst e0 e1 e2
  refine ⟨⟨kind, point, args, ⟨neg, num, den⟩⟩, ⟨aa, ac, na, nc, da, dc⟩, rfl, ⟨r2, r3, r4⟩, inInt_of w0, w1, ?_⟩
  simp [Rows.uptoBulk, Rows.uptoBulkAll, Step.weight, Rt.weight] at w2 w3 ⊢
  have : point.data.size = point.size := rfl
  omega
theorem open_fctc {n : Nat} {cs : List Value} {y : DataW H × List MemPlace} (h : DataW.trod enc Tryz.prog W 0 sp held n 101 cs = some y) :
  ∃ (s : Fct) (p : RA), cs = [.int .i64 s.kind, .slice p.aa s.args.length p.ac, .bool s.ratio.neg, .slice p.na s.ratio.num.length p.nc, .slice p.da s.ratio.den.length p.dc] /\ PartsR W p s.args s.ratio /\ InInt s.kind /\ s.weight <= Rows.uptoBulk y.1 := by
 obtain ⟨xs, m, rfl, rfl, hcl, hxl, hf⟩ := DataW.trod_struct Tryz.underlying101 h
 rw [cellsFct] at hcl
 obtain ⟨c0, c2, c3, c4, c5, rfl⟩ := len5 hcl
 obtain ⟨y0, y2, y3, rfl⟩ := len3 (show xs.length = 3 from hxl)
 ·
  have h0 := hf 0 _ rfl
  have h2 := hf 1 _ rfl
  have h3 := hf 2 _ rfl
  simp [cellsI, cellsInts, cellsRat] at h0 h2 h3
  obtain ⟨kind, e0, rfl, w0⟩ := DataW.trod_int Tryz.underlying3 h0
  obtain ⟨aa, ac, args, e2, r2, w2⟩ := open_intsl h2
  obtain ⟨neg, na, nc, num, da, dc, den, e3, r3, r4, w3⟩ := open_rat h3
  simp at e0 e2 e3
  obtain ⟨rfl, rfl, rfl⟩ := e3
  subst e0 e2
  refine ⟨⟨kind, args, ⟨neg, num, den⟩⟩, ⟨aa, ac, na, nc, da, dc⟩, rfl, ⟨r2, r3, r4⟩, inInt_of w0, ?_⟩
  simp [Rows.uptoBulk, Rows.uptoBulkAll, Fct.weight, Rt.weight] at w2 w3 ⊢
  omega
theorem open_figc {n : Nat} {cs : List Value} {y : DataW H × List MemPlace} (h : DataW.trod enc Tryz.prog W 0 sp held n 25 cs = some y) :
  ∃ (f : Fig) (sa : Option Addr) (sc : Nat) (ga : Option Addr) (gc : Nat), cs = [.slice sa f.steps.length sc, .slice ga f.goals.length gc] /\ FigR W sa sc ga gc f /\ f.weight <= Rows.uptoBulk y.1 := by
 obtain ⟨xs, m, rfl, rfl, hcl, hxl, hf⟩ := DataW.trod_struct Tryz.underlying25 h
 rw [cellsFig] at hcl
 obtain ⟨c0, c1, rfl⟩ := len2 hcl
 obtain ⟨y0, y1, rfl⟩ := len2 (show xs.length = 2 from hxl)
 ·
  have h0 := hf 0 _ rfl
  have h1 := hf 1 _ rfl
  simp [cellsSteps, cellsFcts] at h0 h1
  obtain ⟨sa, sc, steps, e0, r0, w0⟩ := open_sl Tryz.underlying22 cellsStep (by omega) h0 StepE Step.weight (fun k cs' y b o hk ht hl hc => by
   obtain ⟨s, p, rfl, hP, hi, hp, hw⟩ := open_stepc ht
   refine ⟨s, ⟨p, ⟨?_, ?_, ?_, ?_, ?_, ?_⟩, hP, hi, hp⟩, hw⟩
   · have := hc 0 (by omega); simpa using this
   · have := hc 1 (by omega); simpa using this
   · have := hc 2 (by omega); simpa using this
   · have := hc 3 (by omega); simpa using this
   · have := hc 4 (by omega); simpa using this
   · have := hc 5 (by omega); simpa using this)
  obtain ⟨ga, gc, goals, e1, r1, w1⟩ := open_sl Tryz.underlying23 cellsFct (by omega) h1 FctE Fct.weight (fun k cs' y b o hk ht hl hc => by
   obtain ⟨s, p, rfl, hP, hi, hw⟩ := open_fctc ht
   refine ⟨s, ⟨p, ⟨?_, ?_, ?_, ?_, ?_⟩, hP, hi⟩, hw⟩
   · have := hc 0 (by omega); simpa using this
   · have := hc 1 (by omega); simpa using this
   · have := hc 2 (by omega); simpa using this
   · have := hc 3 (by omega); simpa using this
   · have := hc 4 (by omega); simpa using this)
  simp at e0 e1
  subst e0 e1
  refine ⟨⟨steps, goals⟩, sa, sc, ga, gc, rfl, ⟨r0, r1⟩, ?_⟩
  simp [Rows.uptoBulk, Rows.uptoBulkAll, Fig.weight] at w0 w1 ⊢
  omega
theorem open_figure {r : Reach} {b0 : Nat} {v : Value} {d : DataW H} {p : List MemPlace} (hv : Value.okWide Tryz.prog W r b0 25 v) (h : DataW.Trod enc Tryz.prog W 0 sp held 25 v d p) :
  ∃ (f : Fig) (sa : Option Addr) (sc : Nat) (ga : Option Addr) (gc : Nat), v = f.val sa sc ga gc /\ FigR W sa sc ga gc f /\ f.weight <= Rows.uptoBulk d := by
 obtain ⟨cs, rfl, _⟩ := okWide_struct Tryz.underlying25 hv
 obtain ⟨n, hn⟩ := h
 obtain ⟨f, sa, sc, ga, gc, h1, h2, h3⟩ := open_figc hn
 refine ⟨f, sa, sc, ga, gc, ?_, h2, h3⟩
 obtain ⟨l⟩ := cs
 simp [Value.cells] at h1
 simp [Fig.val, h1]
end
end Go.Proofs.YtdnblkklgdnapaaGreat
namespace Go.Proofs.YtdnblkklgdnapaaGreat
open Go.RowKit
def RetAll (qs : List Rat) (bs : List Bool) (er : Int) (w : World) (e : Ending) (w' : World) : Prop := Below w.heap.size w w' /\
 ∃ a c b d, e = .returned (.tuple #[.slice a qs.length c, .slice b bs.length d, .int .i64 er]) /\ QsR w' a c qs /\ BosR w' b d bs
theorem retAll_err {er : Int} {w : World} {e : Ending} {w' : World} (h : RetNthE er w e w') : RetAll [] [] er w e w' := ⟨h.1, none, 0, none, 0, h.2, SlR.nil, SlR.nil⟩
theorem retAll_good {t1 t2 k : Nat} {w : World} {e : Ending} {w' : World} (h : RetNthG t1 t2 k w e w') : RetAll (vaN k t2 t1) (brN k t2) 0 w e w' := by
 obtain ⟨h1, a, c, b, d, h2, h3, h4⟩ := h
 exact ⟨h1, a, c, b, d, by rw [h2, vaN_len, brN_len], h3, h4⟩
theorem vaN_sz {k c p : Nat} (hp : p <= 1000) : ∀ q ∈ vaN k c p, qsz q <= 1000 := fun q hq => by
 unfold vaN at hq
 obtain ⟨i, hi, rfl⟩ := List.mem_map.1 hq
 have hi' := List.mem_range.1 hi
 have h1 := dealN_lt k p (by omega) 63 (c + i)
 have h2 : (2 : Nat) ^ (63 - (c + i)) <= 2 ^ 63 := Nat.pow_le_pow_right (by omega) (by omega)
 have h3 : dealN k p 63 (c + i) ^^^ (i + 1) < 2 ^ 63 := Nat.xor_lt_two_pow (ltl h1 h2) (by omega)
 exact Nat.le_trans (valR_sz ⟨by omega, by omega⟩) (by omega)
theorem nth_both (f : Fig) (k : Int) (hk : InInt k) (sa : Option Addr) (sc : Nat) (ga : Option Addr) (gc : Nat) (w : World) (h : FigR w sa sc ga gc f) (hq : f.few) (hr : ∀ s ∈ f.steps, s.ratio.num.length <= 2 /\ s.ratio.den.length <= 2) :
  ∃ qs bs er, (∀ W, Below w.heap.size w W -> Calls Tryz.prog 4 #[f.val sa sc ga gc, .int .i64 k] W (RetAll qs bs er W)) /\
   (∀ W, Below w.heap.size w W -> Calls Tryz.prog 5 #[f.val sa sc ga gc, .int .i64 k] W (RetAll qs bs er W)) /\ qs.length <= 1000 /\ bs.length <= 1000 /\ ∀ q ∈ qs, qsz q <= 1000 := by
 have C1 := fun W (hW : Below w.heap.size w W) => choicesS_any f sa sc ga gc W ⟨h.1.ext (xbw hW), h.2.ext (xbw hW)⟩ hq hr
 have C2 := fun W (hW : Below w.heap.size w W) => choices26_any f sa sc ga gc W ⟨h.1.ext (xbw hW), h.2.ext (xbw hW)⟩ hq hr
 obtain ⟨l1, l2⟩ := chF_le f
 revert C1 C2 l1 l2
 generalize chF f = t
 intro C1 C2 l1 l2
 by_cases h3 : t.2.2 = 0
 ·
  obtain ⟨t1, t2, t3⟩ := t
  dsimp only at h3 l1 l2
  subst h3
  by_cases hk0 : k < 0
  ·
   exact ⟨[], [], 2, fun W hW => (nthS_neg f k t1 t2 sa sc ga gc W hk0 fun V hV => C1 V (bth hW hV)).mono fun _ _ h => retAll_err h,
    fun W hW => (nthR_neg f k t1 t2 sa sc ga gc W hk0 fun V hV => C2 V (bth hW hV)).mono fun _ _ h => retAll_err h, by simp, by simp, fun q hq => by cases hq⟩
  ·
   obtain ⟨n, rfl⟩ := Int.eq_ofNat_of_zero_le (show 0 <= k by omega)
   have hn : n < 9223372036854775808 := by have := hk.2; omega
   exact ⟨vaN n t2 t1, brN n t2, 0, fun W hW => (nthS_good f n t1 t2 sa sc ga gc W hn l1 (by omega) fun V hV => C1 V (bth hW hV)).mono fun _ _ h => retAll_good h,
    fun W hW => (nthR_good f n t1 t2 sa sc ga gc W hn l1 (by omega) fun V hV => C2 V (bth hW hV)).mono fun _ _ h => retAll_good h, by rw [vaN_len]; omega, by rw [brN_len]; omega, vaN_sz (by omega)⟩
 ·
  exact ⟨[], [], t.2.2, fun W hW => (nthS_bad f k t sa sc ga gc W h3 fun V hV => C1 V (bth hW hV)).mono fun _ _ h => retAll_err h,
   fun W hW => (nthR_bad f k t sa sc ga gc W h3 fun V hV => C2 V (bth hW hV)).mono fun _ _ h => retAll_err h, by simp, by simp, fun q hq => by cases hq⟩
theorem refuteChoices_fig (f : Fig) (k : Int) (hk : InInt k) (sa : Option Addr) (sc : Nat) (ga : Option Addr) (gc : Nat) (w : World) (h : FigR w sa sc ga gc f) (hq : f.few) :
  Calls Tryz.prog 3 #[f.val sa sc ga gc, .int .i64 k] w fun r w' => r = .returned (.bool true) /\ Below w.heap.size w w' := by
 have C := nth_both f k hk sa sc ga gc w h hq
 unfold Fig.val at C ⊢
 have HS := Hd h.1; replace C := Hd C
 clear h hq hk
 obtain ⟨steps, goals⟩ := f
 dsimp only at HS C ⊢
 have hsl := HS.out.len
 go_enter Tryz.func3, Tryz.ntmps3
 by_cases h41 : 41 < steps.length
 ·
  have d41 : decide (41 < steps.length) = true := decide_eq_true h41
  go_wp2
  go_ret
  exact ⟨rfl, by go_grown⟩
 have d41 : decide (41 < steps.length) = false := decide_eq_false h41
 by_cases h9 : 9 < goals.length
 ·
  have d9 : decide (9 < goals.length) = true := decide_eq_true h9
  go_wp2
  go_ret
  exact ⟨rfl, by go_grown⟩
 have d9 : decide (9 < goals.length) = false := decide_eq_false h9
 go_wp2
 refine world_gen (fun W => Blk W w.heap.size 25 #[.slice sa steps.length sc, .slice ga goals.length gc] /\ Below w.heap.size w W) ⟨by ((with_reducible repeat first|assumption|(apply bF;focus omega)|apply bS|(apply bN;focus (simp;done))|apply bA|apply bD);all_goals rfl), by go_grown⟩ ?_
 rintro w1 ⟨h0, hw1⟩
 have x0 := h0.cell 0; have x1 := h0.cell 1
 obtain ⟨g0, hg0⟩ : ∃ g, g = w.heap.size := ⟨_, rfl⟩
 rw [<- hg0] at h0 x0 x1 ⊢
 have hgw : w.heap.size <= g0 := by omega
 replace hg0 := Hd hg0
 clear d41 d9 h9
 go_wp2
 go_loopg [5, 7, 27] steps.length (fun m n _ idx wr => ∃ (j nn : Nat), Hid (j + m = steps.length) /\ n = .int .i64 nn /\ nn <= j /\ idx = .int .i64 j /\ Below w.heap.size w wr /\ Blk wr g0 25 #[.slice sa steps.length sc, .slice ga goals.length gc] /\ Hid (∀ (i : Nat) (s : Step), i < j -> steps[i]? = some s -> s.ratio.num.length <= 2 /\ s.ratio.den.length <= 2))
 case atStart => exact ⟨0, 0, by show _ = _; omega, rfl, by omega, rfl, hw1, h0, fun i s hi => by omega⟩
 case round =>
  clear h0 x0 x1 hw1
  obtain ⟨j, nn, hm, rfl, hnj, rfl, hwr, h0, hall⟩ := hrel
  by_cases hlt : j < steps.length
  ·
   obtain ⟨s, hs_⟩ := get_of_lt hlt
   obtain ⟨b, o, rfl, p, hC, hP, hin, hsz⟩ := HS.out.2.2 j s hs_
   obtain ⟨c0, c1, c2, c3, c4, c5⟩ := hC
   have d0 := held c0 wr hwr; have d1 := held c1 wr hwr; have d2 := held c2 wr hwr; have d3 := held c3 wr hwr; have d4 := held c4 wr hwr; have d5 := held c5 wr hwr
   have hbl : b < wr.heap.size := World.block_lt_of_cell? wr _ d0
   have hgl := h0.lt
   replace hs_ := Hd hs_; replace hP := Hd hP; replace hin := Hd hin
   clear c0 c1 c2 c3 c4 c5
   by_cases a8 : 8 < s.args.length
   ·
    have e8 : decide (8 < s.args.length) = true := decide_eq_true a8
    go_wp2 <;> (go_ret; exact ⟨rfl, by go_grown⟩)
   have e8 : decide (8 < s.args.length) = false := decide_eq_false a8
   by_cases n2 : 2 < s.ratio.num.length
   ·
    have e2 : decide (2 < s.ratio.num.length) = true := decide_eq_true n2
    go_wp2 <;> (go_ret; exact ⟨rfl, by go_grown⟩)
   have e2 : decide (2 < s.ratio.num.length) = false := decide_eq_false n2
   by_cases m2 : 2 < s.ratio.den.length
   ·
    have e3 : decide (2 < s.ratio.den.length) = true := decide_eq_true m2
    go_wp2 <;> (go_ret; exact ⟨rfl, by go_grown⟩)
   have e3 : decide (2 < s.ratio.den.length) = false := decide_eq_false m2
   have hall2 : ∀ (i : Nat) (s : Step), i < j + 1 -> steps[i]? = some s -> s.ratio.num.length <= 2 /\ s.ratio.den.length <= 2 := fun i s' hi hs' => by
    by_cases hij : i = j
    ·
     subst hij
     have := hs_.out
     rw [hs'] at this
     injection this with this
     subst this
     omega
    · exact hall.out i s' (by omega) hs'
   replace hall2 := Hd hall2
   by_cases hk1 : s.kind = 1
   ·
    skip
    have hkd : (s.kind != 1) = false := by simpa using hk1
    clear hk1
    go_wp2
    go_roundg (gk - 1)
    case rel => exact ⟨j + 1, nn, by have := hm.out; show _ = _; omega, by go_num, by omega, by go_num, by go_grown, by ((with_reducible repeat first|assumption|(apply bF;focus omega)|apply bS|(apply bN;focus (simp;done))|apply bA|apply bD);all_goals rfl), hall2.out⟩
    case measure => have := hm.out; omega
   ·
    skip
    have hkd : (s.kind != 1) = true := by simpa using hk1
    clear hk1
    go_wp2
    go_roundg (gk - 1)
    case rel => exact ⟨j + 1, nn + 1, by have := hm.out; show _ = _; omega, by go_num, by omega, by go_num, by go_grown, by ((with_reducible repeat first|assumption|(apply bF;focus omega)|apply bS|(apply bN;focus (simp;done))|apply bA|apply bD);all_goals rfl), hall2.out⟩
    case measure => have := hm.out; omega
  ·
   have hjl : j = steps.length := by have := hm.out; omega
   have hr : ∀ s ∈ steps, s.ratio.num.length <= 2 /\ s.ratio.den.length <= 2 := fun s hs => by
    obtain ⟨i, hi⟩ := List.getElem?_of_mem hs
    exact hall.out i s (by have := lt_of_get hi; omega) hi
   obtain ⟨qs, bs, er, N1, N2, lq, lb, hz⟩ := C.out hr
   have x0 := h0.cell 0; have x1 := h0.cell 1; have xl := h0.lt
   replace N1 := Hd N1; replace N2 := Hd N2; replace hz := Hd hz
   by_cases h12 : 12 < nn
   ·
    have h12i : (12 : Int) < (nn : Int) := by omega
    go_wp2
    go_ret
    exact ⟨rfl, hwr⟩
   have h12i : ¬ (12 : Int) < (nn : Int) := by omega
   clear hjl hr hall C
   go_wp2_with fail
   refine (N1.out wr hwr).mono ?_
   rintro e w2 ⟨hb2, a1, c1, b1, d1, rfl, hQ1, hB1⟩
   have hw2 := bth hwr hb2
   have h02 := h0.below' hb2
   replace hQ1 := Hd hQ1; replace hB1 := Hd hB1
   have y0 := h02.cell 0; have y1 := h02.cell 1; have yl := h02.lt
   clear x0 x1 xl hb2 h0
   go_wp2_with fail
   refine (N2.out w2 hw2).mono ?_
   rintro e w3 ⟨hb3, a2, c2, b2, d2, rfl, hQ2, hB2⟩
   have hw3 := bth hw2 hb3
   have CS := same27_any qs bs a1 a2 b1 b2 c1 c2 d1 d2 w3 (hQ1.out.ext (xbw hb3)) hQ2 (hB1.out.ext (xbw hb3)) hB2 lq lb hz.out
   replace CS := Hd CS
   clear y0 y1 yl hb3 hQ1 hB1 hQ2 hB2 h02
   go_wp2_with fail
   refine CS.out.mono ?_
   rintro e w4 ⟨rfl, hb4⟩
   have hw4 := bth hw3 hb4
   clear CS hb4
   go_wp2
   go_ret
   exact ⟨rfl, hw4⟩
theorem refuteChoices_law {v : Value} {w : World} {n : Nat} (h : ∃ (f : Fig) (sa : Option Addr) (sc : Nat) (ga : Option Addr) (gc : Nat), v = f.val sa sc ga gc /\ FigR w sa sc ga gc f /\ f.weight <= n)
  (k : Int) (hk : (Lit.int .i64 k).wf = true) (hn : n <= 1048576) :
  Calls Tryz.prog 3 #[v, .int .i64 k] w fun r w' => r = .returned (.bool true) /\ Below w.heap.size w w' := by
 obtain ⟨f, sa, sc, ga, gc, rfl, hr, hw⟩ := h
 exact refuteChoices_fig f k (inInt_of hk) sa sc ga gc w hr (Fig.few_of (by omega))
end Go.Proofs.YtdnblkklgdnapaaGreat
namespace Go.Proofs.YtdnblkklgdnapaaGreat
open Go.ChangeShapes Go.WideShapes Go.ChangeAt Go.RowKit
theorem trodAll_below {H : Type} {enc : TypeId × Value -> H} {P : Program} (hl : laidOutB P = true) {W W' : World} (hB : Below W.heap.size W W') :
  ∀ (ts : List TypeId) (vs : List Value) (ds : List (DataW H)) (p : List MemPlace), (ts.all fun t => P.readableRec t && decide (t < P.types.size)) = true ->
   (∀ x ∈ p, x.block < W.heap.size) -> DataW.TrodAll enc P W 0 (fun _ => true) true ts vs ds p -> DataW.TrodAll enc P W' 0 (fun b => decide (b < W.heap.size)) true ts vs ds p := by
 intro ts
 induction ts with
 | nil => intro vs ds p _ _ h; cases vs <;> cases ds <;> first | exact h | exact h.elim
 | cons t ts ih =>
  intro vs ds p ha hp h
  cases vs with
  | nil => exact h.elim
  | cons v vs =>
   cases ds with
   | nil => exact h.elim
   | cons d ds =>
    obtain ⟨p1, q1, h1, h2, rfl⟩ := h
    simp only [List.all_cons, Bool.and_eq_true, decide_eq_true_eq] at ha
    exact ⟨p1, q1, Below.trod hl ha.1.1 ha.1.2 h1 hB (fun x hx => hp x (by simp [hx])), ih vs ds q1 ha.2 (fun x hx => hp x (by simp [hx])) h2, rfl⟩
theorem law_post {H : Type} {enc : TypeId × Value -> H} {P : Program} {f : Func} {s : ChangeSpec} {W W' : World} {args : Array Value} {ds gs : List (DataW H)} {before : List MemPlace} {tb : TypeId}
  (hl : laidOutB P = true) (hts : (f.params.toList.all fun t => P.readableRec t && decide (t < P.types.size)) = true) (hr : f.resultTypes = #[tb]) (hb : P.underlying tb = some .bool) (hv : s.vars = [])
  (hW : DataW.Whole enc P f.params.toList s.vars false W args.toList ds gs before) (hfn : s.fn H (ds ++ gs) = { results := [.lit (.bool true)], args := ds, vars := [] })
  (hB : Below W.heap.size W W') : s.post enc P f false true false false W args (.bool true) W' := by
 have hlt := hW.lt
 have hW0 := hW
 obtain ⟨p, q, hA, hV, rfl, _, _⟩ := hW
 rw [hv] at hV
 obtain ⟨rfl, rfl⟩ := trodVars_none hV
 refine ⟨ds, _, _, [], p, [], hW0, ?_, ?_, ?_, hB.frame _, fun h => by cases h⟩
 ·
  rw [hfn, hr]
  exact trodAll_mk1 (shut_bool hb true)
 ·
  rw [hfn]
  exact trodAll_below hl hB _ _ _ _ hts (fun x hx => by simpa using hlt x (by simp [hx])) hA
 ·
  rw [hfn, hv]
  rfl
end Go.Proofs.YtdnblkklgdnapaaGreat
namespace Go.Proofs.YtdnblkklgdnapaaGreat.refuteChoicesUpto
open Go.ChangeShapes Go.WideShapes Go.ChangeAt Go.RowKit
set_option linter.unusedVariables false
theorem own : ownKnob Tryz.prog.godebug = none := by kernel_rfl
theorem laidOut : laidOutB Tryz.prog = true := by kernel_rfl
theorem readable : (Tryz.f3.params.toList.all fun t => Tryz.prog.readableRec t && decide (t < Tryz.prog.types.size)) = true := by kernel_rfl
theorem contract (H : Type) (enc : TypeId × Value -> H) (W : World) (base : Nat) (args : Array Value) (ds gs : List (DataW H)) (before : List MemPlace)
  (hval : ∀ (j : Nat) t v, Tryz.f3.params[j]? = some t -> args[j]? = some v -> Value.okWide Tryz.prog W .any base t v)
  (hW : DataW.Whole enc Tryz.prog Tryz.f3.params.toList Rows.refuteChoicesSpec.vars false W args.toList ds gs before) (hk : Rows.uptoSmall H (ds ++ gs) = true) :
  Calls Tryz.prog 3 args W fun e W' => ∃ v, e = .returned v /\ Rows.refuteChoicesSpec.post enc Tryz.prog Tryz.f3 false true false false W args v W' := by
 have hW' := hW
 obtain ⟨p, q, hA0, hV, rfl, hfz, hnd⟩ := hW
 have hA : DataW.TrodAll enc Tryz.prog W 0 (fun _ => true) true Tryz.f3.params.toList args.toList ds p := hA0
 rw [Tryz.params3] at hA hval
 obtain ⟨v0, vs0, d0, ds0, p0, q0, hargs, rfl, rfl, h0, r0⟩ := trodAll_cons hA
 obtain ⟨v1, vs1, d1, ds1, p1, q1, rfl, rfl, rfl, h1, r1⟩ := trodAll_cons r0
 obtain ⟨rfl, rfl, rfl⟩ := trodAll_nil r1
 obtain rfl : args = #[v0, v1] := by cases args; simp_all
 obtain ⟨rfl, rfl⟩ := trodVars_none hV
 clear hA0 hA r0 r1
 have hbulk := of_decide_eq_true hk
 simp only [List.cons_append, List.nil_append, Rows.uptoBulkAll] at hbulk
 have hx0 := open_figure (hval 0 25 v0 rfl rfl) h0
 obtain ⟨a1, rfl, rfl, rfl, wa1⟩ := open_int Tryz.underlying3 (hval 1 3 v1 rfl rfl) h1
 refine (refuteChoices_law hx0 a1 wa1 (by omega)).mono fun e W' ⟨he, hg⟩ => ?_
 subst he
 exact ⟨_, rfl, law_post laidOut readable (by kernel_rfl) Tryz.underlying4 rfl hW' (by rfl) hg⟩
theorem lifted (os : Os) (started : os.Started) (H : Type) (enc : TypeId × Value -> H) (F : Stop.Interp) :
  ReturnsInHanded {} Tryz.checked os 3 .any ((Rows.OpenSpec.upto Rows.refuteChoicesSpec).pre6 enc Tryz.prog Tryz.f3 Rows.refuteChoicesUptoRow.domain false) (((Rows.OpenSpec.upto Rows.refuteChoicesSpec).at F).post enc Tryz.prog Tryz.f3 false true false false) := by
 refine returnsInHanded_of_cond (C := Tryz.checked) (s := Rows.OpenSpec.upto Rows.refuteChoicesSpec) (k := Rows.uptoSmall) rfl own started (by kernel_rfl) Tryz.func3
  (OpenSpec.witness (enc := enc) (C := Tryz.checked) (s := Rows.OpenSpec.upto Rows.refuteChoicesSpec) (k := Rows.uptoSmall) rfl false ⟨#[], #[.agg #[.slice none 0 0, .slice none 0 0], .int .i64 0], []⟩ 8 (by kernel_rfl) (by kernel_rfl) (by kernel_rfl)
   (x := ([.agg [.nil, .nil], .lit (.int .i64 0)], [], [])) (by kernel_rfl) rfl (by kernel_rfl)) ?_
 intro W base args ds gs before hval hW _ hk _
 exact contract H enc W base args ds gs before hval hW hk
set_option maxHeartbeats 0 in
theorem closed : joinedFacts Tryz.pinned.checked.prog 3 Tryz.f3 (Rows.OpenSpec.upto Rows.refuteChoicesSpec).bare Rows.refuteChoicesUptoRow = true := by
 simp only [joinedFacts, Bool.and_eq_true]
 repeat' apply And.intro
 all_goals (as_aux_lemma => kernel_rfl)
theorem proved : Rows.RefuteChoicesUptoSaid :=
 OpenClaim.holds_of_cond 3 Tryz.f3 rfl rfl rfl rfl rfl rfl rfl ⟨rfl, rfl, rfl, rfl, rfl⟩ rfl rfl rfl rfl rfl (by kernel_rfl) Tryz.func3 closed
  (of_decide_eq_true (by kernel_rfl)) (by unfold Func.isWrapper; first | (rw [if_pos (by decide +kernel)]; kernel_rfl) | (rw [if_neg (by decide +kernel)]; exact ⟨rfl, rfl⟩))
  (fun os started H enc _ F => lifted os started H enc F)
#print axioms proved
end Go.Proofs.YtdnblkklgdnapaaGreat.refuteChoicesUpto
