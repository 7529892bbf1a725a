/- Walks: the least and the greatest of a row of numbers, on both sides. -/
import Derived.Test.YtaihkpjbnkgmlaaGreatRf22
import Derived.Test.YtaihkpjbnkgmlaaGreatRf20
import Derived.Test.YtaihkpjbnkgmlaaGreatRf5
import Derived.Deep.LoopGhost

/- Walks: the least and the greatest of a row of numbers, on both sides. -/
namespace Go.Proofs.YtaihkpjbnkgmlaaGreat
open Go.RowKit

theorem leastQ_snoc (p x : Rat) (l : List Rat) : leastQ p (l ++ [x]) = if x < leastQ p l then x else leastQ p l := by unfold leastQ; rw [List.foldl_append]; rfl
theorem greatQ_snoc (p x : Rat) (l : List Rat) : greatQ p (l ++ [x]) = if greatQ p l < x then x else greatQ p l := by unfold greatQ; rw [List.foldl_append]; rfl
/-- the cells of block b from 0 on hold the numbers xs, as handles -/
def RowQ (w : World) (b : Nat) (xs : List QA) : Prop := ∀ (i : Nat) (x : QA), xs[i]? = some x → w.cell? ⟨b, i * 3, none⟩ = some (.bool x.neg) ∧ w.cell? ⟨b, i * 3 + 1, none⟩ = some (.slice x.a x.n x.c) ∧ w.cell? ⟨b, i * 3 + 2, none⟩ = some (.slice x.b x.m x.d)
theorem RowQ.ext {w w' : World} {b : Nat} {xs : List QA} (h : RowQ w b xs) (e : Ext w w') : RowQ w' b xs := fun i x hx => by
 obtain ⟨h1, h2, h3⟩ := h i x hx
 exact ⟨e _ _ h1, e _ _ h2, e _ _ h3⟩
/-- the handles xs read as the numbers qs -/
def AllQ (k : Nat) (w : World) (xs : List QA) (qs : List Rat) : Prop := xs.length = qs.length ∧ ∀ (i : Nat) (x : QA) (q : Rat), xs[i]? = some x → qs[i]? = some q → QK k w x q
theorem AllQ.ext {k : Nat} {w w' : World} {xs : List QA} {qs : List Rat} (h : AllQ k w xs qs) (e : Ext w w') : AllQ k w' xs qs := ⟨h.1, fun i x q hx hq => (h.2 i x q hx hq).ext e⟩
theorem AllQ.head {k : Nat} {w : World} {x : QA} {q : Rat} {xs : List QA} {qs : List Rat} (h : AllQ k w (x :: xs) (q :: qs)) : QK k w x q := h.2 0 x q rfl rfl
/-- one of the handles is handed back, that of r -/
def PickL (xs : List QA) (qs : List Rat) (r : Rat) (e : Ending) : Prop := ∃ z : QA, e = .returned (.agg #[.bool z.neg, .slice z.a z.n z.c, .slice z.b z.m z.d]) ∧ ∀ k W, AllQ k W xs qs → QK k W z r
theorem RowQ.three {w : World} {g : Nat} {x y z : QA} (h : Blk w g 43 #[.bool x.neg, .slice x.a x.n x.c, .slice x.b x.m x.d, .bool y.neg, .slice y.a y.n y.c, .slice y.b y.m y.d, .bool z.neg, .slice z.a z.n z.c, .slice z.b z.m z.d]) : RowQ w g [x, y, z] := fun i q hq => by
 match i, hq with
 | 0, hq => cases hq; exact ⟨h.cell 0, h.cell 1, h.cell 2⟩
 | 1, hq => cases hq; exact ⟨h.cell 3, h.cell 4, h.cell 5⟩
 | 2, hq => cases hq; exact ⟨h.cell 6, h.cell 7, h.cell 8⟩
theorem Kp.wide {R : World → Prop} {B T B' T' : Nat} {w : World} (h : Kp R B T w) (hB : B' ≤ B) (hT : T ≤ T') : Kp R B' T' w := fun V hV => h V fun p v h1 h2 h3 => hV p v (Nat.le_trans hB h1) (Nat.lt_of_lt_of_le h2 hT) h3
theorem AllQ.four {k B T : Nat} {w : World} {x1 x2 x3 x4 : QA} {q1 q2 q3 q4 : Rat} (h1 : Kp (fun V => QK k V x1 q1) B T w) (h2 : Kp (fun V => QK k V x2 q2) B T w) (h3 : Kp (fun V => QK k V x3 q3) B T w) (h4 : Kp (fun V => QK k V x4 q4) B T w) :
  Kp (fun V => AllQ k V [x1, x2, x3, x4] [q1, q2, q3, q4]) B T w := fun V hV => ⟨rfl, fun i x q hx hq => by
 match i, hx, hq with
 | 0, hx, hq => cases hx; cases hq; exact h1 V hV
 | 1, hx, hq => cases hx; cases hq; exact h2 V hV
 | 2, hx, hq => cases hx; cases hq; exact h3 V hV
 | 3, hx, hq => cases hx; cases hq; exact h4 V hV⟩
theorem RowQ.n1 {w : World} {g : Nat} {x1 : QA} (h : Blk w g 43 #[.bool x1.neg, .slice x1.a x1.n x1.c, .slice x1.b x1.m x1.d]) : RowQ w g [x1] := fun i q hq => by
 match i, hq with
 | 0, hq => cases hq; exact ⟨h.cell 0, h.cell 1, h.cell 2⟩
theorem RowQ.n2 {w : World} {g : Nat} {x1 x2 : QA} (h : Blk w g 43 #[.bool x1.neg, .slice x1.a x1.n x1.c, .slice x1.b x1.m x1.d, .bool x2.neg, .slice x2.a x2.n x2.c, .slice x2.b x2.m x2.d]) : RowQ w g [x1, x2] := fun i q hq => by
 match i, hq with
 | 0, hq => cases hq; exact ⟨h.cell 0, h.cell 1, h.cell 2⟩
 | 1, hq => cases hq; exact ⟨h.cell 3, h.cell 4, h.cell 5⟩
theorem AllQ.n2 {k B T : Nat} {w : World} {x1 x2 : QA} {q1 q2 : Rat} (h1 : Kp (fun V => QK k V x1 q1) B T w) (h2 : Kp (fun V => QK k V x2 q2) B T w) :
  Kp (fun V => AllQ k V [x1, x2] [q1, q2]) B T w := fun V hV => ⟨rfl, fun i x q hx hq => by
 match i, hx, hq with
 | 0, hx, hq => cases hx; cases hq; exact h1 V hV
 | 1, hx, hq => cases hx; cases hq; exact h2 V hV⟩
theorem RowQ.n4 {w : World} {g : Nat} {x1 x2 x3 x4 : QA} (h : Blk w g 43 #[.bool x1.neg, .slice x1.a x1.n x1.c, .slice x1.b x1.m x1.d, .bool x2.neg, .slice x2.a x2.n x2.c, .slice x2.b x2.m x2.d, .bool x3.neg, .slice x3.a x3.n x3.c, .slice x3.b x3.m x3.d, .bool x4.neg, .slice x4.a x4.n x4.c, .slice x4.b x4.m x4.d]) : RowQ w g [x1, x2, x3, x4] := fun i q hq => by
 match i, hq with
 | 0, hq => cases hq; exact ⟨h.cell 0, h.cell 1, h.cell 2⟩
 | 1, hq => cases hq; exact ⟨h.cell 3, h.cell 4, h.cell 5⟩
 | 2, hq => cases hq; exact ⟨h.cell 6, h.cell 7, h.cell 8⟩
 | 3, hq => cases hq; exact ⟨h.cell 9, h.cell 10, h.cell 11⟩
theorem AllQ.n4 {k B T : Nat} {w : World} {x1 x2 x3 x4 : QA} {q1 q2 q3 q4 : Rat} (h1 : Kp (fun V => QK k V x1 q1) B T w) (h2 : Kp (fun V => QK k V x2 q2) B T w) (h3 : Kp (fun V => QK k V x3 q3) B T w) (h4 : Kp (fun V => QK k V x4 q4) B T w) :
  Kp (fun V => AllQ k V [x1, x2, x3, x4] [q1, q2, q3, q4]) B T w := fun V hV => ⟨rfl, fun i x q hx hq => by
 match i, hx, hq with
 | 0, hx, hq => cases hx; cases hq; exact h1 V hV
 | 1, hx, hq => cases hx; cases hq; exact h2 V hV
 | 2, hx, hq => cases hx; cases hq; exact h3 V hV
 | 3, hx, hq => cases hx; cases hq; exact h4 V hV⟩
set_option maxRecDepth 100000 in
set_option maxHeartbeats 2000000 in
theorem leastL_q (x : QA) (q : Rat) (xs : List QA) (qs : List Rat) (k b cp : Nat) (w : World) (H : AllQ k w (x :: xs) (q :: qs)) (hr : RowQ w b xs) (hl : xs.length ≤ 1000) (hk : k ≤ 100000) : Calls Tryz.prog 147 #[.agg #[.bool x.neg, .slice x.a x.n x.c, .slice x.b x.m x.d], .slice (some ⟨b, 0, none⟩) xs.length cp] w fun e w' => PickL (x :: xs) (q :: qs) (leastQ q qs) e ∧ Below w.heap.size w w' := by
 have hlen := H.1
 have HH := Lib.hid (fun W (hW : Below w.heap.size w W) => H.ext (Ext.below hW))
 have HR := Lib.hid (fun W (hW : Below w.heap.size w W) => hr.ext (Ext.below hW))
 have hz0 : Blk ((w.alloc (.cells #[.bool x.neg, .slice x.a x.n x.c, .slice x.b x.m x.d] 43)).alloc (.cells #[.bool false, .slice none 0 0, .slice none 0 0] 43)) w.heap.size 43 #[.bool x.neg, .slice x.a x.n x.c, .slice x.b x.m x.d] := (Blk.new w _ _).alloc _
 have hz1 : Blk ((w.alloc (.cells #[.bool x.neg, .slice x.a x.n x.c, .slice x.b x.m x.d] 43)).alloc (.cells #[.bool false, .slice none 0 0, .slice none 0 0] 43)) (w.heap.size + 1) 43 #[.bool false, .slice none 0 0, .slice none 0 0] := blk_at1 w _ _ _
 have hb0 : Below w.heap.size w ((w.alloc (.cells #[.bool x.neg, .slice x.a x.n x.c, .slice x.b x.m x.d] 43)).alloc (.cells #[.bool false, .slice none 0 0, .slice none 0 0] 43)) := by go_grown
 have hll : xs.length ≤ 1000 := hl
 have HLEN := Lib.hid hlen
 clear H hr hlen hl
 go_enter Tryz.func147, Tryz.ntmps147
 go_wp2
 revert hz0 hz1 hb0
 generalize (w.alloc (.cells #[.bool x.neg, .slice x.a x.n x.c, .slice x.b x.m x.d] 43)).alloc (.cells #[.bool false, .slice none 0 0, .slice none 0 0] 43) = w0
 obtain ⟨n1, hn1⟩ : ∃ n1, w.heap.size + 1 = n1 := ⟨_, rfl⟩
 rw [hn1]
 intro hz0 hz1 hb0
 have HZ0 := Lib.hid hz0; have HZ1 := Lib.hid hz1
 have hwn : w.heap.size < n1 := by omega
 clear hz0 hz1 hn1
 go_loopg [6, 9] xs.length (fun g _ si wr => ∃ (i : Nat) (z : QA), i + g = xs.length ∧ si = .int .i64 i ∧ Blk wr w.heap.size 43 #[.bool z.neg, .slice z.a z.n z.c, .slice z.b z.m z.d] ∧ Blk wr n1 43 #[.bool false, .slice none 0 0, .slice none 0 0] ∧ (∀ k W, AllQ k W (x :: xs) (q :: qs) → QK k W z (leastQ q (qs.take i))) ∧ Below w.heap.size w wr)
 case atStart => exact ⟨0, x, by omega, rfl, HZ0.out, HZ1.out, fun k W h => h.head, hb0⟩
 case round =>
  obtain ⟨i, z, hig, rfl, hz0, hz1, hz, hw⟩ := hrel
  have HIG := Lib.hid hig
  have HZ := Lib.hid hz
  have HZ0 := Lib.hid hz0; have HZ1 := Lib.hid hz1
  clear hig hz hz0 hz1
  by_cases hlt : i < xs.length
  ·
   obtain ⟨y, hy⟩ := get_of_lt hlt
   obtain ⟨p, hp⟩ := get_of_lt (xs := qs) (k := i) (by have := HLEN.out; simp at this; omega)
   obtain ⟨r0, r1, r2⟩ := HR.out wr hw i y hy
   have hnx : leastQ q (qs.take (i + 1)) = if p < leastQ q (qs.take i) then p else leastQ q (qs.take i) := by rw [take_more hp, leastQ_snoc]
   have HNX := Lib.hid hnx
   have HYP := Lib.hid (fun k W (h : AllQ k W (x :: xs) (q :: qs)) => h.2 (i + 1) y p hy hp)
   obtain ⟨m, hm⟩ : ∃ m, leastQ q (qs.take i) = m := ⟨_, rfl⟩
   rw [hm] at HNX
   have HZM := Lib.hid (show ∀ k W, AllQ k W (x :: xs) (q :: qs) → QK k W z m by rw [← hm]; exact HZ.out)
   have C1 := fun W (hW : Below w.heap.size w W) => cmp_q y z p m k k W (HYP.out k W (HH.out W hW)) (HZM.out k W (HH.out W hW)) hk hk
   have e1 := cmpQ_lt (p := p) (q := m)
   revert C1 e1
   generalize cmpQ p m = u
   intro C1 e1
   replace C1 := Lib.hid C1; replace e1 := Lib.hid e1
   have hx6 : Blk (wr.alloc (.cells #[.bool y.neg, .slice y.a y.n y.c, .slice y.b y.m y.d] 43)) wr.heap.size 43 #[.bool y.neg, .slice y.a y.n y.c, .slice y.b y.m y.d] := Blk.new _ _ _
   have hz0 := HZ0.out.alloc (.cells #[.bool y.neg, .slice y.a y.n y.c, .slice y.b y.m y.d] 43)
   have hz1 := HZ1.out.alloc (.cells #[.bool y.neg, .slice y.a y.n y.c, .slice y.b y.m y.d] 43)
   have hw1 : Below w.heap.size w (wr.alloc (.cells #[.bool y.neg, .slice y.a y.n y.c, .slice y.b y.m y.d] 43)) := hw.alloc hw.size _
   have hgl := HZ0.out.lt
   have z0 := hz0.cell 0; have z1 := hz0.cell 1; have z2 := hz0.cell 2
   clear hy hp hnx hm HZ
   go_wp2_with fail
   revert hx6 hz0 hz1 hw1 z0 z1 z2
   generalize wr.alloc (.cells #[.bool y.neg, .slice y.a y.n y.c, .slice y.b y.m y.d] 43) = w1
   generalize wr.heap.size = n6 at hgl ⊢
   intro hx6 hz0 hz1 hw1 z0 z1 z2
   refine (C1.out _ hw1).mono ?_
   rintro e w2 ⟨rfl, hb2⟩
   have hw2 := below_then hw1 hb2
   replace hx6 := hx6.below' hb2
   replace hz0 := hz0.below' hb2
   replace hz1 := hz1.below' hb2
   clear z0 z1 z2 r0 r1 r2 HZ0 HZ1 hw hw1 hb2
   have x0 := hx6.cell 0; have x1 := hx6.cell 1; have x2 := hx6.cell 2
   have z0 := hz0.cell 0; have z1 := hz0.cell 1; have z2 := hz0.cell 2; have f0 := hz0.frozen 0; have f1 := hz0.frozen 1; have f2 := hz0.frozen 2
   by_cases hu : u < 0
   ·
    have HE := Lib.hid (HNX.out.trans (if_pos (e1.out.1 hu)))
    go_wp2
    go_roundg (gk - 1)
    case rel => exact ⟨i + 1, y, by have := HIG.out; omega, by go_num, by ((repeat first|with_reducible assumption|((with_reducible apply Blk.farAt);focus omega)|with_reducible apply Blk.setb|((with_reducible apply Blk.newAt);focus (simp;done))|with_reducible apply Blk.alloc|with_reducible apply Blk.drew);all_goals (show @Eq (Array Value) _ _;rfl)), by ((repeat first|with_reducible assumption|((with_reducible apply Blk.farAt);focus omega)|with_reducible apply Blk.setb|((with_reducible apply Blk.newAt);focus (simp;done))|with_reducible apply Blk.alloc|with_reducible apply Blk.drew);all_goals (show @Eq (Array Value) _ _;rfl)), by rw [HE.out]; exact HYP.out, below3 hw2 (Nat.le_refl _)⟩
    case measure => have := HIG.out; omega
   ·
    have HE := Lib.hid (HNX.out.trans (if_neg (fun h => hu (e1.out.2 h))))
    go_wp2
    go_roundg (gk - 1)
    case rel => exact ⟨i + 1, z, by have := HIG.out; omega, by go_num, hz0, hz1, by rw [HE.out]; exact HZM.out, hw2⟩
    case measure => have := HIG.out; omega
  ·
   have hi : qs.take i = qs := List.take_of_length_le (by have := HLEN.out; simp at this; omega)
   have HZE := Lib.hid (show ∀ k W, AllQ k W (x :: xs) (q :: qs) → QK k W z (leastQ q qs) by have h5 := HZ.out; rw [hi] at h5; exact h5)
   have z0 := HZ0.out.cell 0; have z1 := HZ0.out.cell 1; have z2 := HZ0.out.cell 2
   have y0 := HZ1.out.cell 0; have y1 := HZ1.out.cell 1; have y2 := HZ1.out.cell 2; have f0 := HZ1.out.frozen 0; have f1 := HZ1.out.frozen 1; have f2 := HZ1.out.frozen 2
   clear hi HZ
   go_wp2
   have hF := blk3 (x := .bool z.neg) (y := .slice z.a z.n z.c) (z := .slice z.b z.m z.d) HZ1.out
   have e0 := hF.cell 0; have e1' := hF.cell 1; have e2 := hF.cell 2
   refine bodyPost_ret (v := .agg #[.bool z.neg, .slice z.a z.n z.c, .slice z.b z.m z.d]) (by simp [results, Tryz.results147, go_sem, e0, e1', e2]) rfl ?_
   exact ⟨⟨z, rfl, HZE.out⟩, below3 hw (by omega)⟩
set_option maxRecDepth 100000 in
set_option maxHeartbeats 2000000 in
theorem greatL_q (x : QA) (q : Rat) (xs : List QA) (qs : List Rat) (k b cp : Nat) (w : World) (H : AllQ k w (x :: xs) (q :: qs)) (hr : RowQ w b xs) (hl : xs.length ≤ 1000) (hk : k ≤ 100000) : Calls Tryz.prog 146 #[.agg #[.bool x.neg, .slice x.a x.n x.c, .slice x.b x.m x.d], .slice (some ⟨b, 0, none⟩) xs.length cp] w fun e w' => PickL (x :: xs) (q :: qs) (greatQ q qs) e ∧ Below w.heap.size w w' := by
 have hlen := H.1
 have HH := Lib.hid (fun W (hW : Below w.heap.size w W) => H.ext (Ext.below hW))
 have HR := Lib.hid (fun W (hW : Below w.heap.size w W) => hr.ext (Ext.below hW))
 have hz0 : Blk ((w.alloc (.cells #[.bool x.neg, .slice x.a x.n x.c, .slice x.b x.m x.d] 43)).alloc (.cells #[.bool false, .slice none 0 0, .slice none 0 0] 43)) w.heap.size 43 #[.bool x.neg, .slice x.a x.n x.c, .slice x.b x.m x.d] := (Blk.new w _ _).alloc _
 have hz1 : Blk ((w.alloc (.cells #[.bool x.neg, .slice x.a x.n x.c, .slice x.b x.m x.d] 43)).alloc (.cells #[.bool false, .slice none 0 0, .slice none 0 0] 43)) (w.heap.size + 1) 43 #[.bool false, .slice none 0 0, .slice none 0 0] := blk_at1 w _ _ _
 have hb0 : Below w.heap.size w ((w.alloc (.cells #[.bool x.neg, .slice x.a x.n x.c, .slice x.b x.m x.d] 43)).alloc (.cells #[.bool false, .slice none 0 0, .slice none 0 0] 43)) := by go_grown
 have hll : xs.length ≤ 1000 := hl
 have HLEN := Lib.hid hlen
 clear H hr hlen hl
 go_enter Tryz.func146, Tryz.ntmps146
 go_wp2
 revert hz0 hz1 hb0
 generalize (w.alloc (.cells #[.bool x.neg, .slice x.a x.n x.c, .slice x.b x.m x.d] 43)).alloc (.cells #[.bool false, .slice none 0 0, .slice none 0 0] 43) = w0
 obtain ⟨n1, hn1⟩ : ∃ n1, w.heap.size + 1 = n1 := ⟨_, rfl⟩
 rw [hn1]
 intro hz0 hz1 hb0
 have HZ0 := Lib.hid hz0; have HZ1 := Lib.hid hz1
 have hwn : w.heap.size < n1 := by omega
 clear hz0 hz1 hn1
 go_loopg [6, 9] xs.length (fun g _ si wr => ∃ (i : Nat) (z : QA), i + g = xs.length ∧ si = .int .i64 i ∧ Blk wr w.heap.size 43 #[.bool z.neg, .slice z.a z.n z.c, .slice z.b z.m z.d] ∧ Blk wr n1 43 #[.bool false, .slice none 0 0, .slice none 0 0] ∧ (∀ k W, AllQ k W (x :: xs) (q :: qs) → QK k W z (greatQ q (qs.take i))) ∧ Below w.heap.size w wr)
 case atStart => exact ⟨0, x, by omega, rfl, HZ0.out, HZ1.out, fun k W h => h.head, hb0⟩
 case round =>
  obtain ⟨i, z, hig, rfl, hz0, hz1, hz, hw⟩ := hrel
  have HIG := Lib.hid hig
  have HZ := Lib.hid hz
  have HZ0 := Lib.hid hz0; have HZ1 := Lib.hid hz1
  clear hig hz hz0 hz1
  by_cases hlt : i < xs.length
  ·
   obtain ⟨y, hy⟩ := get_of_lt hlt
   obtain ⟨p, hp⟩ := get_of_lt (xs := qs) (k := i) (by have := HLEN.out; simp at this; omega)
   obtain ⟨r0, r1, r2⟩ := HR.out wr hw i y hy
   have hnx : greatQ q (qs.take (i + 1)) = if greatQ q (qs.take i) < p then p else greatQ q (qs.take i) := by rw [take_more hp, greatQ_snoc]
   have HNX := Lib.hid hnx
   have HYP := Lib.hid (fun k W (h : AllQ k W (x :: xs) (q :: qs)) => h.2 (i + 1) y p hy hp)
   obtain ⟨m, hm⟩ : ∃ m, greatQ q (qs.take i) = m := ⟨_, rfl⟩
   rw [hm] at HNX
   have HZM := Lib.hid (show ∀ k W, AllQ k W (x :: xs) (q :: qs) → QK k W z m by rw [← hm]; exact HZ.out)
   have C1 := fun W (hW : Below w.heap.size w W) => cmp_q y z p m k k W (HYP.out k W (HH.out W hW)) (HZM.out k W (HH.out W hW)) hk hk
   have e1 := cmpQ_gt (p := p) (q := m)
   revert C1 e1
   generalize cmpQ p m = u
   intro C1 e1
   replace C1 := Lib.hid C1; replace e1 := Lib.hid e1
   have hx6 : Blk (wr.alloc (.cells #[.bool y.neg, .slice y.a y.n y.c, .slice y.b y.m y.d] 43)) wr.heap.size 43 #[.bool y.neg, .slice y.a y.n y.c, .slice y.b y.m y.d] := Blk.new _ _ _
   have hz0 := HZ0.out.alloc (.cells #[.bool y.neg, .slice y.a y.n y.c, .slice y.b y.m y.d] 43)
   have hz1 := HZ1.out.alloc (.cells #[.bool y.neg, .slice y.a y.n y.c, .slice y.b y.m y.d] 43)
   have hw1 : Below w.heap.size w (wr.alloc (.cells #[.bool y.neg, .slice y.a y.n y.c, .slice y.b y.m y.d] 43)) := hw.alloc hw.size _
   have hgl := HZ0.out.lt
   have z0 := hz0.cell 0; have z1 := hz0.cell 1; have z2 := hz0.cell 2
   clear hy hp hnx hm HZ
   go_wp2_with fail
   revert hx6 hz0 hz1 hw1 z0 z1 z2
   generalize wr.alloc (.cells #[.bool y.neg, .slice y.a y.n y.c, .slice y.b y.m y.d] 43) = w1
   generalize wr.heap.size = n6 at hgl ⊢
   intro hx6 hz0 hz1 hw1 z0 z1 z2
   refine (C1.out _ hw1).mono ?_
   rintro e w2 ⟨rfl, hb2⟩
   have hw2 := below_then hw1 hb2
   replace hx6 := hx6.below' hb2
   replace hz0 := hz0.below' hb2
   replace hz1 := hz1.below' hb2
   clear z0 z1 z2 r0 r1 r2 HZ0 HZ1 hw hw1 hb2
   have x0 := hx6.cell 0; have x1 := hx6.cell 1; have x2 := hx6.cell 2
   have z0 := hz0.cell 0; have z1 := hz0.cell 1; have z2 := hz0.cell 2; have f0 := hz0.frozen 0; have f1 := hz0.frozen 1; have f2 := hz0.frozen 2
   by_cases hu : 0 < u
   ·
    have HE := Lib.hid (HNX.out.trans (if_pos (e1.out.1 hu)))
    go_wp2
    go_roundg (gk - 1)
    case rel => exact ⟨i + 1, y, by have := HIG.out; omega, by go_num, by ((repeat first|with_reducible assumption|((with_reducible apply Blk.farAt);focus omega)|with_reducible apply Blk.setb|((with_reducible apply Blk.newAt);focus (simp;done))|with_reducible apply Blk.alloc|with_reducible apply Blk.drew);all_goals (show @Eq (Array Value) _ _;rfl)), by ((repeat first|with_reducible assumption|((with_reducible apply Blk.farAt);focus omega)|with_reducible apply Blk.setb|((with_reducible apply Blk.newAt);focus (simp;done))|with_reducible apply Blk.alloc|with_reducible apply Blk.drew);all_goals (show @Eq (Array Value) _ _;rfl)), by rw [HE.out]; exact HYP.out, below3 hw2 (Nat.le_refl _)⟩
    case measure => have := HIG.out; omega
   ·
    have HE := Lib.hid (HNX.out.trans (if_neg (fun h => hu (e1.out.2 h))))
    go_wp2
    go_roundg (gk - 1)
    case rel => exact ⟨i + 1, z, by have := HIG.out; omega, by go_num, hz0, hz1, by rw [HE.out]; exact HZM.out, hw2⟩
    case measure => have := HIG.out; omega
  ·
   have hi : qs.take i = qs := List.take_of_length_le (by have := HLEN.out; simp at this; omega)
   have HZE := Lib.hid (show ∀ k W, AllQ k W (x :: xs) (q :: qs) → QK k W z (greatQ q qs) by have h5 := HZ.out; rw [hi] at h5; exact h5)
   have z0 := HZ0.out.cell 0; have z1 := HZ0.out.cell 1; have z2 := HZ0.out.cell 2
   have y0 := HZ1.out.cell 0; have y1 := HZ1.out.cell 1; have y2 := HZ1.out.cell 2; have f0 := HZ1.out.frozen 0; have f1 := HZ1.out.frozen 1; have f2 := HZ1.out.frozen 2
   clear hi HZ
   go_wp2
   have hF := blk3 (x := .bool z.neg) (y := .slice z.a z.n z.c) (z := .slice z.b z.m z.d) HZ1.out
   have e0 := hF.cell 0; have e1' := hF.cell 1; have e2 := hF.cell 2
   refine bodyPost_ret (v := .agg #[.bool z.neg, .slice z.a z.n z.c, .slice z.b z.m z.d]) (by simp [results, Tryz.results146, go_sem, e0, e1', e2]) rfl ?_
   exact ⟨⟨z, rfl, HZE.out⟩, below3 hw (by omega)⟩
set_option maxRecDepth 100000 in
set_option maxHeartbeats 2000000 in
theorem leastLR_q (x : QA) (q : Rat) (xs : List QA) (qs : List Rat) (k b cp : Nat) (w : World) (H : AllQ k w (x :: xs) (q :: qs)) (hr : RowQ w b (x :: xs)) (hl : xs.length ≤ 1000) (hk : k ≤ 100000) : Calls Tryz.prog 237 #[.slice (some ⟨b, 0, none⟩) (xs.length + 1) cp] w fun e w' => PickL (x :: xs) (q :: qs) (leastQ q qs) e ∧ Below w.heap.size w w' := by
 have hlen := H.1
 have HH := Lib.hid (fun W (hW : Below w.heap.size w W) => H.ext (Ext.below hW))
 have HR := Lib.hid (fun W (hW : Below w.heap.size w W) => hr.ext (Ext.below hW))
 obtain ⟨a0, a1, a2⟩ := hr 0 x rfl
 have hbl := World.block_lt_of_cell? w _ a0
 have hz0 : Blk ((w.alloc (.cells #[.bool false, .slice none 0 0, .slice none 0 0] 43)).alloc (.cells #[.bool x.neg, .slice x.a x.n x.c, .slice x.b x.m x.d] 43)) w.heap.size 43 #[.bool false, .slice none 0 0, .slice none 0 0] := (Blk.new w _ _).alloc _
 have hz1 : Blk ((w.alloc (.cells #[.bool false, .slice none 0 0, .slice none 0 0] 43)).alloc (.cells #[.bool x.neg, .slice x.a x.n x.c, .slice x.b x.m x.d] 43)) (w.heap.size + 1) 43 #[.bool x.neg, .slice x.a x.n x.c, .slice x.b x.m x.d] := blk_at1 w _ _ _
 have hb0 : Below w.heap.size w ((w.alloc (.cells #[.bool false, .slice none 0 0, .slice none 0 0] 43)).alloc (.cells #[.bool x.neg, .slice x.a x.n x.c, .slice x.b x.m x.d] 43)) := by go_grown
 have hll : xs.length ≤ 1000 := hl
 have hll2 : ((xs.length : Int) + 1) ≤ 1001 := by omega
 have HLEN := Lib.hid hlen
 have a0' : w.cell? ⟨b, 0, none⟩ = some (.bool x.neg) := by simpa using a0
 have a1' : w.cell? ⟨b, 1, none⟩ = some (.slice x.a x.n x.c) := by simpa using a1
 have a2' : w.cell? ⟨b, 2, none⟩ = some (.slice x.b x.m x.d) := by simpa using a2
 simp only at hbl
 clear H hr hlen hl a0 a1 a2
 go_enter Tryz.func237, Tryz.ntmps237
 go_wp2
 revert hz0 hz1 hb0
 generalize (w.alloc (.cells #[.bool false, .slice none 0 0, .slice none 0 0] 43)).alloc (.cells #[.bool x.neg, .slice x.a x.n x.c, .slice x.b x.m x.d] 43) = w0
 obtain ⟨n1, hn1⟩ : ∃ n1, w.heap.size + 1 = n1 := ⟨_, rfl⟩
 rw [hn1]
 intro hz0 hz1 hb0
 have HZ0 := Lib.hid hz0; have HZ1 := Lib.hid hz1
 have hwn : w.heap.size < n1 := by omega
 clear hz0 hz1 hn1 a0' a1' a2'
 go_loopg [4] xs.length (fun g si wr => ∃ (i : Nat) (z : QA), i + g = xs.length ∧ si = .int .i64 ((i : Int) + 1) ∧ Blk wr n1 43 #[.bool z.neg, .slice z.a z.n z.c, .slice z.b z.m z.d] ∧ Blk wr w.heap.size 43 #[.bool false, .slice none 0 0, .slice none 0 0] ∧ (∀ k W, AllQ k W (x :: xs) (q :: qs) → QK k W z (leastQ q (qs.take i))) ∧ Below w.heap.size w wr)
 case atStart => exact ⟨0, x, by omega, rfl, HZ1.out, HZ0.out, fun k W h => h.head, hb0⟩
 case round =>
  obtain ⟨i, z, hig, rfl, hz0, hz1, hz, hw⟩ := hrel
  have HIG := Lib.hid hig
  have HZ := Lib.hid hz
  have HZ0 := Lib.hid hz0; have HZ1 := Lib.hid hz1
  clear hig hz hz0 hz1
  have hi0 : 0 ≤ (i : Int) + 1 := by omega
  have hi1 : ((i : Int) + 1).toNat = i + 1 := by omega
  by_cases hlt : i < xs.length
  ·
   obtain ⟨y, hy⟩ := get_of_lt hlt
   obtain ⟨p, hp⟩ := get_of_lt (xs := qs) (k := i) (by have := HLEN.out; simp at this; omega)
   obtain ⟨b0, b1, b2⟩ := HR.out wr hw (i + 1) y hy
   have r0 := held b0; have r1 := held b1; have r2 := held b2
   have hnx : leastQ q (qs.take (i + 1)) = if p < leastQ q (qs.take i) then p else leastQ q (qs.take i) := by rw [take_more hp, leastQ_snoc]
   have HNX := Lib.hid hnx
   have HYP := Lib.hid (fun k W (h : AllQ k W (x :: xs) (q :: qs)) => h.2 (i + 1) y p hy hp)
   obtain ⟨m, hm⟩ : ∃ m, leastQ q (qs.take i) = m := ⟨_, rfl⟩
   rw [hm] at HNX
   have HZM := Lib.hid (show ∀ k W, AllQ k W (x :: xs) (q :: qs) → QK k W z m by rw [← hm]; exact HZ.out)
   have C1 := fun W (hW : Below w.heap.size w W) => cmpR_q y z p m k k W (HYP.out k W (HH.out W hW)) (HZM.out k W (HH.out W hW)) hk hk
   have e1 := cmpQ_lt (p := p) (q := m)
   revert C1 e1
   generalize cmpQ p m = u
   intro C1 e1
   replace C1 := Lib.hid C1; replace e1 := Lib.hid e1
   have z0 := held (HZ0.out.cell 0); have z1 := held (HZ0.out.cell 1); have z2 := held (HZ0.out.cell 2)
   have hk3 : IntKind.i64.wrap ((i : Int) + 1) = (i : Int) + 1 := IntWalk.i64_in _ (by omega)
   have hi4 : (i : Int) + 1 < (xs.length : Int) + 1 := by omega
   have hi5 : i + 1 < xs.length + 1 := by omega
   clear hy hp hnx hm HZ b0 b1 b2
   go_wp2
   have s0 : Below wr.heap.size wr wr.drew := (Below.refl _ _).drew
   refine wp_region_mix (S := Below wr.heap.size wr) [(0, .q), (1, .q), (2, .q), (3, .q), (4, .q), (5, .t), (6, .p)] (by kernel_rfl) (by kernel_rfl) (by kernel_rfl) (fun d _ _ _ _ h => by cases d <;> exact h) (s0) ?_
   iterate 5 (refine wpMix_q rfl rfl (fun K hK => ?_); apply Exists.intro; refine ⟨fun w' hw' => ?_, ?_⟩; (focus (go_simp; try rfl)); go_simp; refine hK _ _ ?_; clear hK K)
   refine wpMix_t rfl rfl (fun K hK => ?_)
   go_simp
   refine (C1.out _ (below_then hw s0)).mono ?_
   rintro r w2 ⟨rfl, hb2⟩
   dsimp only
   refine hK.out _ _ ?_
   clear hK K
   have t2 := below_then s0 hb2
   iterate 1 (refine wpMix_p rfl rfl (fun K hK => ?_); apply Exists.intro; refine ⟨fun w' => ?_, ?_⟩; (focus (go_simp; try rfl)); go_simp; refine hK _ _ ?_; clear hK K)
   refine wpMix_nil ?_
   have hw2 := below_then hw t2
   have hz0 := HZ0.out.below' t2
   have hz1 := HZ1.out.below' t2
   have y0 := r0 w2 t2; have y1 := r1 w2 t2; have y2 := r2 w2 t2
   clear z0 z1 z2 r0 r1 r2 HZ0 HZ1 hw s0 hb2
   have z0 := hz0.cell 0; have z1 := hz0.cell 1; have z2 := hz0.cell 2; have f0 := hz0.frozen 0; have f1 := hz0.frozen 1; have f2 := hz0.frozen 2
   by_cases hu : u < 0
   ·
    have HE := Lib.hid (HNX.out.trans (if_pos (e1.out.1 hu)))
    go_wp2
    go_roundg (gk - 1)
    case rel => exact ⟨i + 1, y, by have := HIG.out; omega, by go_num, by ((repeat first|with_reducible assumption|((with_reducible apply Blk.farAt);focus omega)|with_reducible apply Blk.setb|((with_reducible apply Blk.newAt);focus (simp;done))|with_reducible apply Blk.alloc|with_reducible apply Blk.drew);all_goals (show @Eq (Array Value) _ _;rfl)), by ((repeat first|with_reducible assumption|((with_reducible apply Blk.farAt);focus omega)|with_reducible apply Blk.setb|((with_reducible apply Blk.newAt);focus (simp;done))|with_reducible apply Blk.alloc|with_reducible apply Blk.drew);all_goals (show @Eq (Array Value) _ _;rfl)), by rw [HE.out]; exact HYP.out, below3 hw2 (Nat.le_of_lt hwn)⟩
    case measure => have := HIG.out; omega
   ·
    have HE := Lib.hid (HNX.out.trans (if_neg (fun h => hu (e1.out.2 h))))
    go_wp2
    go_roundg (gk - 1)
    case rel => exact ⟨i + 1, z, by have := HIG.out; omega, by go_num, hz0, hz1, by rw [HE.out]; exact HZM.out, hw2⟩
    case measure => have := HIG.out; omega
  ·
   have hi : qs.take i = qs := List.take_of_length_le (by have := HLEN.out; simp at this; omega)
   have HZE := Lib.hid (show ∀ k W, AllQ k W (x :: xs) (q :: qs) → QK k W z (leastQ q qs) by have h5 := HZ.out; rw [hi] at h5; exact h5)
   have z0 := HZ0.out.cell 0; have z1 := HZ0.out.cell 1; have z2 := HZ0.out.cell 2
   have y0 := HZ1.out.cell 0; have y1 := HZ1.out.cell 1; have y2 := HZ1.out.cell 2; have f0 := HZ1.out.frozen 0; have f1 := HZ1.out.frozen 1; have f2 := HZ1.out.frozen 2
   have hi4 : ¬ (i : Int) + 1 < (xs.length : Int) + 1 := by omega
   clear hi HZ
   go_wp2
   have hF := blk3 (x := .bool z.neg) (y := .slice z.a z.n z.c) (z := .slice z.b z.m z.d) HZ1.out
   have e0 := hF.cell 0; have e1' := hF.cell 1; have e2 := hF.cell 2
   refine bodyPost_ret (v := .agg #[.bool z.neg, .slice z.a z.n z.c, .slice z.b z.m z.d]) (by simp [results, Tryz.results237, go_sem, e0, e1', e2]) rfl ?_
   exact ⟨⟨z, rfl, HZE.out⟩, below3 hw (Nat.le_refl _)⟩
set_option maxRecDepth 100000 in
set_option maxHeartbeats 2000000 in
theorem greatLR_q (x : QA) (q : Rat) (xs : List QA) (qs : List Rat) (k b cp : Nat) (w : World) (H : AllQ k w (x :: xs) (q :: qs)) (hr : RowQ w b (x :: xs)) (hl : xs.length ≤ 1000) (hk : k ≤ 100000) : Calls Tryz.prog 238 #[.slice (some ⟨b, 0, none⟩) (xs.length + 1) cp] w fun e w' => PickL (x :: xs) (q :: qs) (greatQ q qs) e ∧ Below w.heap.size w w' := by
 have hlen := H.1
 have HH := Lib.hid (fun W (hW : Below w.heap.size w W) => H.ext (Ext.below hW))
 have HR := Lib.hid (fun W (hW : Below w.heap.size w W) => hr.ext (Ext.below hW))
 obtain ⟨a0, a1, a2⟩ := hr 0 x rfl
 have hbl := World.block_lt_of_cell? w _ a0
 have hz0 : Blk ((w.alloc (.cells #[.bool false, .slice none 0 0, .slice none 0 0] 43)).alloc (.cells #[.bool x.neg, .slice x.a x.n x.c, .slice x.b x.m x.d] 43)) w.heap.size 43 #[.bool false, .slice none 0 0, .slice none 0 0] := (Blk.new w _ _).alloc _
 have hz1 : Blk ((w.alloc (.cells #[.bool false, .slice none 0 0, .slice none 0 0] 43)).alloc (.cells #[.bool x.neg, .slice x.a x.n x.c, .slice x.b x.m x.d] 43)) (w.heap.size + 1) 43 #[.bool x.neg, .slice x.a x.n x.c, .slice x.b x.m x.d] := blk_at1 w _ _ _
 have hb0 : Below w.heap.size w ((w.alloc (.cells #[.bool false, .slice none 0 0, .slice none 0 0] 43)).alloc (.cells #[.bool x.neg, .slice x.a x.n x.c, .slice x.b x.m x.d] 43)) := by go_grown
 have hll : xs.length ≤ 1000 := hl
 have hll2 : ((xs.length : Int) + 1) ≤ 1001 := by omega
 have HLEN := Lib.hid hlen
 have a0' : w.cell? ⟨b, 0, none⟩ = some (.bool x.neg) := by simpa using a0
 have a1' : w.cell? ⟨b, 1, none⟩ = some (.slice x.a x.n x.c) := by simpa using a1
 have a2' : w.cell? ⟨b, 2, none⟩ = some (.slice x.b x.m x.d) := by simpa using a2
 simp only at hbl
 clear H hr hlen hl a0 a1 a2
 go_enter Tryz.func238, Tryz.ntmps238
 go_wp2
 revert hz0 hz1 hb0
 generalize (w.alloc (.cells #[.bool false, .slice none 0 0, .slice none 0 0] 43)).alloc (.cells #[.bool x.neg, .slice x.a x.n x.c, .slice x.b x.m x.d] 43) = w0
 obtain ⟨n1, hn1⟩ : ∃ n1, w.heap.size + 1 = n1 := ⟨_, rfl⟩
 rw [hn1]
 intro hz0 hz1 hb0
 have HZ0 := Lib.hid hz0; have HZ1 := Lib.hid hz1
 have hwn : w.heap.size < n1 := by omega
 clear hz0 hz1 hn1 a0' a1' a2'
 go_loopg [4] xs.length (fun g si wr => ∃ (i : Nat) (z : QA), i + g = xs.length ∧ si = .int .i64 ((i : Int) + 1) ∧ Blk wr n1 43 #[.bool z.neg, .slice z.a z.n z.c, .slice z.b z.m z.d] ∧ Blk wr w.heap.size 43 #[.bool false, .slice none 0 0, .slice none 0 0] ∧ (∀ k W, AllQ k W (x :: xs) (q :: qs) → QK k W z (greatQ q (qs.take i))) ∧ Below w.heap.size w wr)
 case atStart => exact ⟨0, x, by omega, rfl, HZ1.out, HZ0.out, fun k W h => h.head, hb0⟩
 case round =>
  obtain ⟨i, z, hig, rfl, hz0, hz1, hz, hw⟩ := hrel
  have HIG := Lib.hid hig
  have HZ := Lib.hid hz
  have HZ0 := Lib.hid hz0; have HZ1 := Lib.hid hz1
  clear hig hz hz0 hz1
  have hi0 : 0 ≤ (i : Int) + 1 := by omega
  have hi1 : ((i : Int) + 1).toNat = i + 1 := by omega
  by_cases hlt : i < xs.length
  ·
   obtain ⟨y, hy⟩ := get_of_lt hlt
   obtain ⟨p, hp⟩ := get_of_lt (xs := qs) (k := i) (by have := HLEN.out; simp at this; omega)
   obtain ⟨b0, b1, b2⟩ := HR.out wr hw (i + 1) y hy
   have r0 := held b0; have r1 := held b1; have r2 := held b2
   have hnx : greatQ q (qs.take (i + 1)) = if greatQ q (qs.take i) < p then p else greatQ q (qs.take i) := by rw [take_more hp, greatQ_snoc]
   have HNX := Lib.hid hnx
   have HYP := Lib.hid (fun k W (h : AllQ k W (x :: xs) (q :: qs)) => h.2 (i + 1) y p hy hp)
   obtain ⟨m, hm⟩ : ∃ m, greatQ q (qs.take i) = m := ⟨_, rfl⟩
   rw [hm] at HNX
   have HZM := Lib.hid (show ∀ k W, AllQ k W (x :: xs) (q :: qs) → QK k W z m by rw [← hm]; exact HZ.out)
   have C1 := fun W (hW : Below w.heap.size w W) => cmpR_q y z p m k k W (HYP.out k W (HH.out W hW)) (HZM.out k W (HH.out W hW)) hk hk
   have e1 := cmpQ_gt (p := p) (q := m)
   revert C1 e1
   generalize cmpQ p m = u
   intro C1 e1
   replace C1 := Lib.hid C1; replace e1 := Lib.hid e1
   have z0 := held (HZ0.out.cell 0); have z1 := held (HZ0.out.cell 1); have z2 := held (HZ0.out.cell 2)
   have hk3 : IntKind.i64.wrap ((i : Int) + 1) = (i : Int) + 1 := IntWalk.i64_in _ (by omega)
   have hi4 : (i : Int) + 1 < (xs.length : Int) + 1 := by omega
   have hi5 : i + 1 < xs.length + 1 := by omega
   clear hy hp hnx hm HZ b0 b1 b2
   go_wp2
   have s0 : Below wr.heap.size wr wr.drew := (Below.refl _ _).drew
   refine wp_region_mix (S := Below wr.heap.size wr) [(0, .q), (1, .q), (2, .q), (3, .q), (4, .q), (5, .t), (6, .p)] (by kernel_rfl) (by kernel_rfl) (by kernel_rfl) (fun d _ _ _ _ h => by cases d <;> exact h) (s0) ?_
   iterate 5 (refine wpMix_q rfl rfl (fun K hK => ?_); apply Exists.intro; refine ⟨fun w' hw' => ?_, ?_⟩; (focus (go_simp; try rfl)); go_simp; refine hK _ _ ?_; clear hK K)
   refine wpMix_t rfl rfl (fun K hK => ?_)
   go_simp
   refine (C1.out _ (below_then hw s0)).mono ?_
   rintro r w2 ⟨rfl, hb2⟩
   dsimp only
   refine hK.out _ _ ?_
   clear hK K
   have t2 := below_then s0 hb2
   iterate 1 (refine wpMix_p rfl rfl (fun K hK => ?_); apply Exists.intro; refine ⟨fun w' => ?_, ?_⟩; (focus (go_simp; try rfl)); go_simp; refine hK _ _ ?_; clear hK K)
   refine wpMix_nil ?_
   have hw2 := below_then hw t2
   have hz0 := HZ0.out.below' t2
   have hz1 := HZ1.out.below' t2
   have y0 := r0 w2 t2; have y1 := r1 w2 t2; have y2 := r2 w2 t2
   clear z0 z1 z2 r0 r1 r2 HZ0 HZ1 hw s0 hb2
   have z0 := hz0.cell 0; have z1 := hz0.cell 1; have z2 := hz0.cell 2; have f0 := hz0.frozen 0; have f1 := hz0.frozen 1; have f2 := hz0.frozen 2
   by_cases hu : 0 < u
   ·
    have HE := Lib.hid (HNX.out.trans (if_pos (e1.out.1 hu)))
    go_wp2
    go_roundg (gk - 1)
    case rel => exact ⟨i + 1, y, by have := HIG.out; omega, by go_num, by ((repeat first|with_reducible assumption|((with_reducible apply Blk.farAt);focus omega)|with_reducible apply Blk.setb|((with_reducible apply Blk.newAt);focus (simp;done))|with_reducible apply Blk.alloc|with_reducible apply Blk.drew);all_goals (show @Eq (Array Value) _ _;rfl)), by ((repeat first|with_reducible assumption|((with_reducible apply Blk.farAt);focus omega)|with_reducible apply Blk.setb|((with_reducible apply Blk.newAt);focus (simp;done))|with_reducible apply Blk.alloc|with_reducible apply Blk.drew);all_goals (show @Eq (Array Value) _ _;rfl)), by rw [HE.out]; exact HYP.out, below3 hw2 (Nat.le_of_lt hwn)⟩
    case measure => have := HIG.out; omega
   ·
    have HE := Lib.hid (HNX.out.trans (if_neg (fun h => hu (e1.out.2 h))))
    go_wp2
    go_roundg (gk - 1)
    case rel => exact ⟨i + 1, z, by have := HIG.out; omega, by go_num, hz0, hz1, by rw [HE.out]; exact HZM.out, hw2⟩
    case measure => have := HIG.out; omega
  ·
   have hi : qs.take i = qs := List.take_of_length_le (by have := HLEN.out; simp at this; omega)
   have HZE := Lib.hid (show ∀ k W, AllQ k W (x :: xs) (q :: qs) → QK k W z (greatQ q qs) by have h5 := HZ.out; rw [hi] at h5; exact h5)
   have z0 := HZ0.out.cell 0; have z1 := HZ0.out.cell 1; have z2 := HZ0.out.cell 2
   have y0 := HZ1.out.cell 0; have y1 := HZ1.out.cell 1; have y2 := HZ1.out.cell 2; have f0 := HZ1.out.frozen 0; have f1 := HZ1.out.frozen 1; have f2 := HZ1.out.frozen 2
   have hi4 : ¬ (i : Int) + 1 < (xs.length : Int) + 1 := by omega
   clear hi HZ
   go_wp2
   have hF := blk3 (x := .bool z.neg) (y := .slice z.a z.n z.c) (z := .slice z.b z.m z.d) HZ1.out
   have e0 := hF.cell 0; have e1' := hF.cell 1; have e2 := hF.cell 2
   refine bodyPost_ret (v := .agg #[.bool z.neg, .slice z.a z.n z.c, .slice z.b z.m z.d]) (by simp [results, Tryz.results238, go_sem, e0, e1', e2]) rfl ?_
   exact ⟨⟨z, rfl, HZE.out⟩, below3 hw (Nat.le_refl _)⟩
end Go.Proofs.YtaihkpjbnkgmlaaGreat
