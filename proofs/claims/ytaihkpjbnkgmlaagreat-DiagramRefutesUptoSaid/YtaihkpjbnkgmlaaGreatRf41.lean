/- Boxes and points that came in, opened. -/
import Derived.Test.YtaihkpjbnkgmlaaGreatRf20
import Derived.Deep.LoopGhost
import Derived.Test.YtaihkpjbnkgmlaaGreatRf1
import Derived.Test.YtaihkpjbnkgmlaaGreatRows

/- Walk: whether a case (figure, values, branches, bits) is of the size that the statements speak of. -/
namespace Go.Proofs.YtaihkpjbnkgmlaaGreat
open Go.RowKit

def fitQ (m : Nat) (qs : List Int) (r : Rt) : Bool := decide (r.num.length ≤ 2) && decide (r.den.length ≤ 2) && decide (qs.length ≤ m)
/-- a case: figure, values, number of branches, bits -/
structure Cse where
 f : Fig
 vals : List Rt
 nb : Nat
 bits : Int
def RatsR (w : World) (a : Option Addr) (c : Nat) (l : List Rt) : Prop := SlR 3 (fun V b o r => ∃ z, Cells3 V b o z ∧ RtZ V r z) w a c l
theorem RatsR.ext {w w' : World} {a : Option Addr} {c : Nat} {l : List Rt} (h : RatsR w a c l) (e : Ext w w') : RatsR w' a c l := SlR.mono h fun _ _ _ _ ⟨z, h1, h2⟩ => ⟨z, h1.ext e, h2.ext e⟩
def Cse.fits (x : Cse) : Bool := x.f.steps.all (fun s => fitQ 8 s.args s.ratio) && (x.f.goals.all (fun s => fitQ 12 s.args s.ratio) && (x.vals.all Rt.short && (decide (x.f.steps.length ≤ 8) && (decide (x.f.goals.length ≤ 4) && (decide (x.vals.length ≤ 16) && (decide (x.nb ≤ 8) && (decide (x.bits ≤ 40) || decide (200 < x.bits))))))))
theorem all_of {α : Type} {p : α → Bool} {l : List α} {k : Nat} {x : α} (h : l[k]? = some x) : (l.drop k).all p = (p x && (l.drop (k + 1)).all p) := by
 have hk := lt_of_get h
 rw [List.drop_eq_getElem_cons hk]
 have : l[k] = x := by rw [List.getElem?_eq_getElem hk] at h; exact Option.some.inj h
 rw [this, List.all_cons]
set_option maxRecDepth 100000 in
set_option maxHeartbeats 4000000 in
theorem fitsC_any (x : Cse) (sa : Option Addr) (sc : Nat) (ga : Option Addr) (gc : Nat) (va : Option Addr) (vc : Nat) (ba : Option Addr) (bc : Nat) (w : World) (h : FigR w sa sc ga gc x.f) (hV : RatsR w va vc x.vals) (hf : ∀ r ∈ x.vals, r.few2) (hnb : x.nb ≤ 9223372036854775807) :
  Calls Tryz.prog 9 #[.agg #[.slice sa x.f.steps.length sc, .slice ga x.f.goals.length gc, .slice va x.vals.length vc, .slice ba x.nb bc, .int .i64 x.bits]] w fun e w' => e = .returned (.bool x.fits) ∧ Below w.heap.size w w' := by
 obtain ⟨⟨steps, goals⟩, vals, nb, bits⟩ := x
 obtain ⟨hS, hG⟩ := h
 obtain ⟨res, hres⟩ : ∃ b, Cse.fits ⟨⟨steps, goals⟩, vals, nb, bits⟩ = b := ⟨_, rfl⟩
 rw [hres]
 unfold Cse.fits at hres
 dsimp only at hS hG hV hf hnb hres ⊢
 have hl1 := hS.len
 have hl2 := hG.len
 have hl3 := SlR.len hV
 have HS := Lib.hid hS
 have HG := Lib.hid hG
 have HV := Lib.hid hV
 have HF := Lib.hid hf
 have HRES := Lib.hid hres
 clear hS hG hV hf hres
 go_enter Tryz.func9, Tryz.ntmps9
 go_wp2
 refine world_gen (fun W => Blk W w.heap.size 31 #[.slice sa steps.length sc, .slice ga goals.length gc, .slice va vals.length vc, .slice ba nb bc, .int .i64 bits] ∧ Below w.heap.size w W) ⟨by ((repeat first|with_reducible assumption|((with_reducible apply Blk.farAt);focus omega)|with_reducible apply Blk.setb|((with_reducible apply Blk.newAt);focus (simp;done))|with_reducible apply Blk.alloc|with_reducible apply Blk.drew);all_goals (show @Eq (Array Value) _ _;rfl)), by go_grown⟩ ?_
 rintro w0 ⟨hz, hb0⟩
 go_loopg [4, 13] steps.length (fun n _ q wr => ∃ k : Nat, k + n = steps.length ∧ q = .int .i64 k ∧ Below w.heap.size w wr ∧ Below w0.heap.size w0 wr ∧ Hid (steps.all (fun s => fitQ 8 s.args s.ratio) = (steps.drop k).all (fun s => fitQ 8 s.args s.ratio)))
 case atStart => exact ⟨0, by omega, rfl, hb0, Below.refl _ _, rfl⟩
 case round =>
  obtain ⟨k, hkg, rfl, hw, hw0, HALL⟩ := hrel
  have HKG := Lib.hid hkg
  have hzr := hz.below' hw0
  have z0 := hzr.cell 0; have z1 := hzr.cell 1; have z2 := hzr.cell 2; have z3 := hzr.cell 3; have z4 := hzr.cell 4
  have hzl := hzr.lt
  clear hkg
  by_cases hlt : k < steps.length
  ·
   obtain ⟨s, hs⟩ := get_of_lt hlt
   obtain ⟨b, off, rfl, ⟨aa, ac, na, nc, da, dc⟩, hC, hP, _, _⟩ := (HS.out.ext (Ext.below hw)).2.2 k s hs
   obtain ⟨c0, c1, c2, c3, c4, c5⟩ := hC
   have p1 := hP.1.len; have p2 := hP.2.1.len; have p3 := hP.2.2.len
   dsimp only at c0 c1 c2 c3 c4 c5 p1 p2 p3
   have HAL := Lib.hid (all_of (p := (fun s => fitQ 8 s.args s.ratio)) hs)
   have hw1 := hw.alloc hw.size (.cells #[.int .i64 s.kind, .string s.point, .slice aa s.args.length ac, .bool s.ratio.neg, .slice na s.ratio.num.length nc, .slice da s.ratio.den.length dc] 45)
   have hw2 := hw0.alloc hw0.size (.cells #[.int .i64 s.kind, .string s.point, .slice aa s.args.length ac, .bool s.ratio.neg, .slice na s.ratio.num.length nc, .slice da s.ratio.den.length dc] 45)
   clear hs hP
   by_cases hbad : s.args.length ≤ 8 ∧ s.ratio.num.length ≤ 2 ∧ s.ratio.den.length ≤ 2
   ·
    obtain ⟨b1, b2, b3⟩ := hbad
    have hfit : fitQ 8 s.args s.ratio = true := by simp [fitQ, b1, b2, b3]
    have hnx := HALL.out
    rw [HAL.out] at hnx
    simp only [hfit, Bool.true_and] at hnx
    have HNX := Lib.hid hnx
    clear hnx hfit
    go_wp2
    go_roundg (gk - 1)
    case rel => exact ⟨k + 1, by have := HKG.out; omega, by go_num, hw1, hw2, HNX.out⟩
    case measure => have := HKG.out; omega
   ·
    have hfit : fitQ 8 s.args s.ratio = false := by simp only [fitQ, Bool.and_eq_false_iff, decide_eq_false_iff_not]; omega
    obtain rfl : res = false := by rw [← HRES.out, HALL.out, HAL.out]; simp [hfit]
    by_cases b2 : s.ratio.num.length ≤ 2
    ·
     by_cases b3 : s.ratio.den.length ≤ 2
     ·
      have b1 : 8 < s.args.length := by omega
      clear hbad hfit; go_wp2; go_ret; exact ⟨rfl, hw1⟩
     · clear hbad hfit; go_wp2; go_ret; exact ⟨rfl, hw1⟩
    · clear hbad hfit; go_wp2; go_ret; exact ⟨rfl, hw1⟩
  ·
   have hst : steps.all (fun s => fitQ 8 s.args s.ratio) = true := by rw [HALL.out, List.drop_eq_nil_of_le (by omega)]; rfl
   have hr2x := HRES.out
   rw [hst, Bool.true_and] at hr2x
   have HR2 := Lib.hid hr2x
   clear HRES HALL HKG hst hr2x
   obtain ⟨wo2, rfl⟩ : ∃ wo : World, wo = wr := ⟨_, rfl⟩
   go_wp2
   go_loopg [6, 41] goals.length (fun n _ q wr => ∃ k : Nat, k + n = goals.length ∧ q = .int .i64 k ∧ Below w.heap.size w wr ∧ Below w0.heap.size w0 wr ∧ Hid (goals.all (fun s => fitQ 12 s.args s.ratio) = (goals.drop k).all (fun s => fitQ 12 s.args s.ratio)))
   case atStart => exact ⟨0, by omega, rfl, hw, hw0, rfl⟩
   case round =>
    clear hw hw0 hzr z0 z1 z2 z3 z4 hzl hlt
    obtain ⟨k2, hkg, rfl, hw, hw0, HALL⟩ := hrel
    have HKG := Lib.hid hkg
    have hzr := hz.below' hw0
    have z0 := hzr.cell 0; have z1 := hzr.cell 1; have z2 := hzr.cell 2; have z3 := hzr.cell 3; have z4 := hzr.cell 4
    have hzl := hzr.lt
    clear hkg
    by_cases hlt : k2 < goals.length
    ·
     obtain ⟨s, hs⟩ := get_of_lt hlt
     obtain ⟨b, off, rfl, ⟨aa, ac, na, nc, da, dc⟩, hC, hP, _⟩ := (HG.out.ext (Ext.below hw)).2.2 k2 s hs
     obtain ⟨c0, c1, c2, c3, c4⟩ := hC
     have p1 := hP.1.len; have p2 := hP.2.1.len; have p3 := hP.2.2.len
     dsimp only at c0 c1 c2 c3 c4 p1 p2 p3
     have HAL := Lib.hid (all_of (p := (fun s => fitQ 12 s.args s.ratio)) hs)
     have hw1 := hw.alloc hw.size (.cells #[.int .i64 s.kind, .slice aa s.args.length ac, .bool s.ratio.neg, .slice na s.ratio.num.length nc, .slice da s.ratio.den.length dc] 81)
     have hw2 := hw0.alloc hw0.size (.cells #[.int .i64 s.kind, .slice aa s.args.length ac, .bool s.ratio.neg, .slice na s.ratio.num.length nc, .slice da s.ratio.den.length dc] 81)
     clear hs hP
     by_cases hbad : s.args.length ≤ 12 ∧ s.ratio.num.length ≤ 2 ∧ s.ratio.den.length ≤ 2
     ·
      obtain ⟨b1, b2, b3⟩ := hbad
      have hfit : fitQ 12 s.args s.ratio = true := by simp [fitQ, b1, b2, b3]
      have hnx := HALL.out
      rw [HAL.out] at hnx
      simp only [hfit, Bool.true_and] at hnx
      have HNX := Lib.hid hnx
      clear hnx hfit
      go_wp2
      go_roundg (gk - 1)
      case rel => exact ⟨k2 + 1, by have := HKG.out; omega, by go_num, hw1, hw2, HNX.out⟩
      case measure => have := HKG.out; omega
     ·
      have hfit : fitQ 12 s.args s.ratio = false := by simp only [fitQ, Bool.and_eq_false_iff, decide_eq_false_iff_not]; omega
      obtain rfl : res = false := by rw [← HR2.out, HALL.out, HAL.out]; simp [hfit]
      by_cases b2 : s.ratio.num.length ≤ 2
      ·
       by_cases b3 : s.ratio.den.length ≤ 2
       ·
        have b1 : 12 < s.args.length := by omega
        clear hbad hfit; go_wp2; go_ret; exact ⟨rfl, hw1⟩
       · clear hbad hfit; go_wp2; go_ret; exact ⟨rfl, hw1⟩
      · clear hbad hfit; go_wp2; go_ret; exact ⟨rfl, hw1⟩
    ·
     have hst : goals.all (fun s => fitQ 12 s.args s.ratio) = true := by rw [HALL.out, List.drop_eq_nil_of_le (by omega)]; rfl
     have hr3x := HR2.out
     rw [hst, Bool.true_and] at hr3x
     have HR3 := Lib.hid hr3x
     clear HR2 HALL HKG hst hr3x
     obtain ⟨wo6, rfl⟩ : ∃ wo : World, wo = wr := ⟨_, rfl⟩
     go_wp2
     go_loopg [8, 68] vals.length (fun n _ q wr => ∃ k : Nat, k + n = vals.length ∧ q = .int .i64 k ∧ Below w.heap.size w wr ∧ Below w0.heap.size w0 wr ∧ Hid (vals.all Rt.short = (vals.drop k).all Rt.short))
     case atStart => exact ⟨0, by omega, rfl, hw, hw0, rfl⟩
     case round =>
      clear hw hw0 hzr z0 z1 z2 z3 z4 hzl hlt
      obtain ⟨k3, hkg, rfl, hw, hw0, HALL⟩ := hrel
      have HKG := Lib.hid hkg
      have hzr := hz.below' hw0
      have z0 := hzr.cell 0; have z1 := hzr.cell 1; have z2 := hzr.cell 2; have z3 := hzr.cell 3; have z4 := hzr.cell 4
      have hzl := hzr.lt
      clear hkg
      by_cases hlt : k3 < vals.length
      ·
       obtain ⟨s, hs⟩ := get_of_lt hlt
       obtain ⟨b, off, rfl, z, hC, hZ⟩ := (HV.out.ext (Ext.below hw)).2.2 k3 s hs
       obtain ⟨c0, c1, c2⟩ := hC
       have HAL := Lib.hid (all_of (p := Rt.short) hs)
       have CS := fun W (hW : Below wr.heap.size wr W) => short44_any s z W (hZ.ext (Ext.below hW)) (HF.out s (List.mem_of_getElem? hs))
       obtain ⟨u, hu⟩ : ∃ u, s.short = u := ⟨_, rfl⟩
       rw [hu] at CS HAL
       replace CS := Lib.hid CS
       clear hs hZ hu
       go_wp2_with fail
       refine calls_gen (fun W => Blk W wr.heap.size 43 #[.bool z.neg, .slice z.a z.n z.c, .slice z.b z.m z.d] ∧ Below wr.heap.size wr W) ⟨by ((repeat first|with_reducible assumption|((with_reducible apply Blk.farAt);focus omega)|with_reducible apply Blk.setb|((with_reducible apply Blk.newAt);focus (simp;done))|with_reducible apply Blk.alloc|with_reducible apply Blk.drew);all_goals (show @Eq (Array Value) _ _;rfl)), by go_grown⟩ ?_
       rintro w1 ⟨hy, hb1⟩
       refine (CS.out _ hb1).mono ?_
       rintro e w2 ⟨rfl, hb2⟩
       have hw1 := below_then hw (below_then hb1 hb2)
       have hw2 := below_then hw0 (below_then hb1 hb2)
       clear c0 c1 c2 hy hb1 hb2
       cases u
       ·
        obtain rfl : res = false := by rw [← HR3.out, HALL.out, HAL.out]; simp
        go_wp2
        go_ret
        exact ⟨rfl, hw1⟩
       ·
        have hnx := HALL.out
        rw [HAL.out] at hnx
        simp only [Bool.true_and] at hnx
        have HNX := Lib.hid hnx
        clear hnx
        go_wp2
        go_roundg (gk - 1)
        case rel => exact ⟨k3 + 1, by have := HKG.out; omega, by go_num, hw1, hw2, HNX.out⟩
        case measure => have := HKG.out; omega
      ·
       have hst : vals.all Rt.short = true := by rw [HALL.out, List.drop_eq_nil_of_le (by omega)]; rfl
       have hr4x := HR3.out
       rw [hst, Bool.true_and] at hr4x
       have HR4 := Lib.hid hr4x
       clear HR3 HALL HKG hst hr4x
       obtain ⟨wo10, rfl⟩ : ∃ wo : World, wo = wr := ⟨_, rfl⟩
       by_cases d1 : steps.length ≤ 8
       ·
        by_cases d2 : goals.length ≤ 4
        ·
         by_cases d3 : vals.length ≤ 16
         ·
          by_cases d4 : nb ≤ 8
          ·
           obtain rfl : res = (decide (bits ≤ 40) || decide (200 < bits)) := by rw [← HR4.out]; simp [d1, d2, d3, d4]
           by_cases d5 : bits ≤ 40
           ·
            clear HR4
            go_wp2
            go_ret
            exact ⟨ret_bool (by simp [d5]), hw⟩
           ·
            clear HR4
            go_wp2
            go_ret
            exact ⟨ret_bool (by rw [Bool.eq_iff_iff]; simp; omega), hw⟩
          ·
           obtain rfl : res = false := by rw [← HR4.out]; simp [d4]
           clear HR4
           go_wp2
           go_ret
           exact ⟨rfl, hw⟩
         ·
          obtain rfl : res = false := by rw [← HR4.out]; simp [d3]
          clear HR4
          go_wp2
          go_ret
          exact ⟨rfl, hw⟩
        ·
         obtain rfl : res = false := by rw [← HR4.out]; simp [d2]
         clear HR4
         go_wp2
         go_ret
         exact ⟨rfl, hw⟩
       ·
        obtain rfl : res = false := by rw [← HR4.out]; simp [d1]
        clear HR4
        go_wp2
        go_ret
        exact ⟨rfl, hw⟩
end Go.Proofs.YtaihkpjbnkgmlaaGreat

/- How an argument that came in is opened: slices of whatever elements, and what they weigh. -/
namespace Go.Proofs.YtaihkpjbnkgmlaaGreat
open Go.ChangeShapes Go.WideShapes Go.ChangeAt Go.RowKit

theorem len2 {α : Type} {l : List α} (h : l.length = 2) : ∃ x0 x1, l = [x0, x1] := by
 match l, h with
 | [x0, x1], _ => exact ⟨x0, x1, rfl⟩
theorem len3 {α : Type} {l : List α} (h : l.length = 3) : ∃ x0 x1 x2, l = [x0, x1, x2] := by
 match l, h with
 | [x0, x1, x2], _ => exact ⟨x0, x1, x2, rfl⟩
theorem len4 {α : Type} {l : List α} (h : l.length = 4) : ∃ x0 x1 x2 x3, l = [x0, x1, x2, x3] := by
 match l, h with
 | [x0, x1, x2, x3], _ => exact ⟨x0, x1, x2, x3, rfl⟩
theorem len5 {α : Type} {l : List α} (h : l.length = 5) : ∃ x0 x1 x2 x3 x4, l = [x0, x1, x2, x3, x4] := by
 match l, h with
 | [x0, x1, x2, x3, x4], _ => exact ⟨x0, x1, x2, x3, x4, rfl⟩
theorem len6 {α : Type} {l : List α} (h : l.length = 6) : ∃ x0 x1 x2 x3 x4 x5, l = [x0, x1, x2, x3, x4, x5] := by
 match l, h with
 | [x0, x1, x2, x3, x4, x5], _ => exact ⟨x0, x1, x2, x3, x4, x5, rfl⟩
theorem list_choose {α β : Type} {p : Nat → β → α → Prop} (l : List β) (h : ∀ i y, l[i]? = some y → ∃ z, p i y z) :
  ∃ zs : List α, zs.length = l.length ∧ ∀ (i : Nat) (z : α), zs[i]? = some z → ∃ y, l[i]? = some y ∧ p i y z := by
 induction l generalizing p with
 | nil => exact ⟨[], rfl, fun i z hz => by simp at hz⟩
 | cons x l ih =>
  obtain ⟨z0, h0⟩ := h 0 x rfl
  obtain ⟨zs, hl, hz⟩ := ih (p := fun i => p (i + 1)) (fun i y hy => h (i + 1) y (by simpa using hy))
  refine ⟨z0 :: zs, by simp [hl], fun i z hi => ?_⟩
  cases i with
  | zero => simp at hi; subst hi; exact ⟨x, rfl, h0⟩
  | succ i => simpa using hz i z (by simpa using hi)

theorem sum_le_bulk {H α : Type} (size : α → Nat) : ∀ (ds : List (DataW H)) (zs : List α), zs.length = ds.length → (∀ (i : Nat) (z : α) (d : DataW H), zs[i]? = some z → ds[i]? = some d → size z ≤ Rows.uptoBulk d) →
  (zs.map size).sum ≤ Rows.uptoBulkAll ds
 | [], zs, hl, _ => by
  have : zs = [] := List.eq_nil_of_length_eq_zero (by simpa using hl)
  subst this; simp
 | d :: ds, [], hl, _ => by simp at hl
 | d :: ds, z :: zs, hl, h => by
  have h0 := h 0 z d rfl rfl
  have h1 := sum_le_bulk size ds zs (by simpa using hl) (fun i z d hz hd => h (i + 1) z d (by simpa using hz) (by simpa using hd))
  simp only [List.map_cons, List.sum_cons, Rows.uptoBulkAll]
  omega

section
variable {H : Type} {enc : TypeId × Value → H} {P : Program} {W : World} {sp : Nat → Bool} {held : Bool}
/-- A SLICE OPENED: its elements as a list, what each is read as being told by 'conv' -/
theorem open_sl {t e : TypeId} {sz fuel : Nat} {cs : List Value} {x : DataW H × List MemPlace} (ht : P.underlying t = some (.slice e)) (hc : P.cellsOf e = sz) (hs : 0 < sz)
  (h : DataW.trod enc P W 0 sp held fuel t cs = some x) {α : Type} (E : World → Nat → Nat → α → Prop) (size : α → Nat)
  (conv : ∀ n cs' y b o, n < fuel → DataW.trod enc P W 0 sp held n e cs' = some y → cs'.length = sz → (∀ j, j < sz → W.cell? ⟨b, o + j, none⟩ = cs'[j]?) → ∃ z, E W b o z ∧ size z ≤ Rows.uptoBulk y.1) :
  ∃ (a : Option Addr) (cap : Nat) (zs : List α), cs = [.slice a zs.length cap] ∧ SlR sz E W a cap zs ∧ (zs.map size).sum + 1 ≤ Rows.uptoBulk x.1 := by
 rcases DataW.trod_slice ht h with ⟨rfl, rfl⟩ | ⟨a, len, cap, elems, rest, n, hn, rfl, rfl, _, hl, hm, hlen, hel, _, _⟩
 · exact ⟨none, 0, [], rfl, SlR.nil, by simp [Rows.uptoBulk]⟩
 ·
  rw [hc] at hel
  have key : ∀ i y, elems[i]? = some y → ∃ z, (∃ b off, a = ⟨b, off, none⟩ ∧ E W b (off + i * sz) z) ∧ size z ≤ Rows.uptoBulk y.1 := by
   intro i y hy
   have hi : i < len := by rw [← hlen]; exact lt_of_get hy
   have h1 := hel i hi
   rw [hy] at h1
   obtain ⟨cs', hcs, hty⟩ := Option.bind_eq_some_iff.1 h1
   obtain ⟨_, hl', hcell⟩ := World.cells?_some hcs
   have hspot : ∃ b off, a = ⟨b, off, none⟩ := by
    have h0 := hcell 0 hs
    rw [List.getElem?_eq_getElem (by omega)] at h0
    have := World.cell?_spot h0
    obtain ⟨b, off, spot⟩ := a
    by_cases hi0 : i * sz = 0
    ·
     simp [Addr.add, hi0] at this
     subst this
     exact ⟨b, off, rfl⟩
    ·
     have h2 := hel 0 (by omega)
     obtain ⟨y0, hy0⟩ := get_of_lt (xs := elems) (k := 0) (by omega)
     rw [hy0] at h2
     obtain ⟨cs0, hcs0, _⟩ := Option.bind_eq_some_iff.1 h2
     obtain ⟨_, hl0, hcell0⟩ := World.cells?_some hcs0
     have h3 := hcell0 0 hs
     rw [List.getElem?_eq_getElem (by omega)] at h3
     have := World.cell?_spot h3
     simp [Addr.add] at this
     subst this
     exact ⟨b, off, rfl⟩
   obtain ⟨b, off, rfl⟩ := hspot
   obtain ⟨z, hz, hsz⟩ := conv n cs' y b (off + i * sz) (by omega) hty hl' (fun j hj => by
    rw [← hcell j hj, add_plain, add_plain])
   exact ⟨z, ⟨b, off, rfl, hz⟩, hsz⟩
  obtain ⟨zs, hzl, hz⟩ := list_choose (p := fun i y z => (∃ b off, a = ⟨b, off, none⟩ ∧ E W b (off + i * sz) z) ∧ size z ≤ Rows.uptoBulk y.1) elems key
  refine ⟨some a, cap, zs, by rw [hzl, hlen], ⟨by omega, hm, fun k z hk => ?_⟩, ?_⟩
  ·
   obtain ⟨y, hy, ⟨b, off, rfl, he⟩, _⟩ := hz k z hk
   exact ⟨b, off, rfl, he⟩
  ·
   have h1 := sum_le_bulk size (elems.map (·.1)) zs (by simpa using hzl) (fun i z d hzi hd => by
    obtain ⟨y, hy, _, hs⟩ := hz i z hzi
    rw [List.getElem?_map, hy] at hd
    simp at hd; subst hd; exact hs)
   simp only [Rows.uptoBulk]
   omega
end

/-- one cell that holds an integer -/
theorem conv_int {H : Type} {enc : TypeId × Value → H} {P : Program} {W : World} {sp : Nat → Bool} {held : Bool} {e : TypeId} {k : IntKind} (he : P.underlying e = some (.int k)) (n : Nat) (cs' : List Value) (y : DataW H × List MemPlace) (b o : Nat)
  (h : DataW.trod enc P W 0 sp held n e cs' = some y) (hc : ∀ j, j < 1 → W.cell? ⟨b, o + j, none⟩ = cs'[j]?) : ∃ z, IntE k W b o z ∧ 1 ≤ Rows.uptoBulk y.1 := by
 obtain ⟨z, rfl, rfl, hw⟩ := DataW.trod_int he h
 exact ⟨z, ⟨by have := hc 0 (by omega); simpa using this, hw⟩, by simp [Rows.uptoBulk]⟩
end Go.Proofs.YtaihkpjbnkgmlaaGreat

/- Natural, whole and rational numbers that came in, opened. -/
namespace Go.Proofs.YtaihkpjbnkgmlaaGreat
open Go.ChangeShapes Go.WideShapes Go.ChangeAt Go.RowKit

theorem cellsRat : Tryz.prog.cellsOf 43 = 3 := by kernel_rfl
theorem cellsInt : Tryz.prog.cellsOf 41 = 2 := by kernel_rfl
theorem cellsNat : Tryz.prog.cellsOf 39 = 1 := by kernel_rfl
theorem cellsB : Tryz.prog.cellsOf 4 = 1 := by kernel_rfl
theorem cellsU16 : Tryz.prog.cellsOf 205 = 1 := by kernel_rfl

theorem list_sum_ones {α : Type} (l : List α) : (l.map fun _ => 1).sum = l.length := by induction l with
 | nil => rfl
 | cons x l ih => simp only [List.map_cons, List.sum_cons, ih, List.length_cons]; omega

section
variable {H : Type} {enc : TypeId × Value → H} {W : World} {sp : Nat → Bool} {held : Bool} {n : Nat}
theorem open_nat {cs : List Value} {y : DataW H × List MemPlace} (h : DataW.trod enc Tryz.prog W 0 sp held n 39 cs = some y) :
  ∃ a c zs, cs = [.slice a (List.length zs) c] ∧ NatR W a c zs ∧ zs.length + 1 ≤ Rows.uptoBulk y.1 := by
 obtain ⟨a, c, zs, h1, h2, h3⟩ := open_sl Tryz.underlying39 cellsU16 (by omega) h (IntE .u16) (fun _ => 1) (fun m cs' y b o _ ht _ hc => conv_int Tryz.underlying205 m cs' y b o ht hc)
 rw [list_sum_ones] at h3
 exact ⟨a, c, zs, h1, h2, h3⟩
theorem open_intst {cs : List Value} {y : DataW H × List MemPlace} (h : DataW.trod enc Tryz.prog W 0 sp held n 41 cs = some y) :
  ∃ b a c zs, cs = [.bool b, .slice a (List.length zs) c] ∧ NatR W a c zs ∧ zs.length + 2 ≤ Rows.uptoBulk y.1 := by
 obtain ⟨xs, m, rfl, rfl, hcl, hxl, hf⟩ := DataW.trod_struct Tryz.underlying41 h
 rw [cellsInt] at hcl
 obtain ⟨c0, c1, rfl⟩ := len2 hcl
 obtain ⟨y0, y1, rfl⟩ := len2 (show xs.length = 2 from hxl)
 ·
  have h0 := hf 0 _ rfl
  have h1 := hf 1 _ rfl
  simp [cellsB, cellsNat] at h0 h1
  obtain ⟨b, e0, rfl⟩ := DataW.trod_bool Tryz.underlying4 h0
  obtain ⟨a, c, zs, e1, h2, h3⟩ := open_nat h1
  simp at e0 e1; subst e0; subst e1
  refine ⟨b, a, c, zs, rfl, h2, ?_⟩
  simp [Rows.uptoBulk, Rows.uptoBulkAll] at h3 ⊢
  omega
theorem open_rat {cs : List Value} {y : DataW H × List MemPlace} (h : DataW.trod enc Tryz.prog W 0 sp held n 43 cs = some y) :
  ∃ b na nc num da dc den, cs = [.bool b, .slice na (List.length num) nc, .slice da (List.length den) dc] ∧ NatR W na nc num ∧ NatR W da dc den ∧ num.length + den.length + 2 ≤ Rows.uptoBulk y.1 := by
 obtain ⟨xs, m, rfl, rfl, hcl, hxl, hf⟩ := DataW.trod_struct Tryz.underlying43 h
 rw [cellsRat] at hcl
 obtain ⟨c0, c1, c2, rfl⟩ := len3 hcl
 obtain ⟨y0, y1, rfl⟩ := len2 (show xs.length = 2 from hxl)
 ·
  have h0 := hf 0 _ rfl
  have h1 := hf 1 _ rfl
  simp [cellsInt, cellsNat] at h0 h1
  obtain ⟨b, na, nc, num, e0, h2, h3⟩ := open_intst h0
  obtain ⟨da, dc, den, e1, h4, h5⟩ := open_nat h1
  simp at e0 e1
  obtain ⟨rfl, rfl⟩ := e0
  subst e1
  refine ⟨b, na, nc, num, da, dc, den, rfl, h2, h4, ?_⟩
  simp [Rows.uptoBulk, Rows.uptoBulkAll] at h3 h5 ⊢
  omega
end
end Go.Proofs.YtaihkpjbnkgmlaaGreat

/- Rational numbers, integers and strings that came in, opened. -/
namespace Go.Proofs.YtaihkpjbnkgmlaaGreat
open Go.ChangeShapes Go.WideShapes Go.ChangeAt Go.RowKit

theorem cellsInts : Tryz.prog.cellsOf 37 = 1 := by kernel_rfl
theorem cellsI : Tryz.prog.cellsOf 3 = 1 := by kernel_rfl
theorem cellsS : Tryz.prog.cellsOf 9 = 1 := by kernel_rfl
section
variable {H : Type} {enc : TypeId × Value → H} {W : World} {sp : Nat → Bool} {held : Bool} {n : Nat}
theorem open_intsl {cs : List Value} {y : DataW H × List MemPlace} (h : DataW.trod enc Tryz.prog W 0 sp held n 37 cs = some y) :
  ∃ a c zs, cs = [.slice a (List.length zs) c] ∧ IntsR W a c zs ∧ zs.length + 1 ≤ Rows.uptoBulk y.1 := by
 obtain ⟨a, c, zs, h1, h2, h3⟩ := open_sl Tryz.underlying37 cellsI (by omega) h (IntE .i64) (fun _ => 1) (fun m cs' y b o _ ht _ hc => conv_int Tryz.underlying3 m cs' y b o ht hc)
 rw [list_sum_ones] at h3
 exact ⟨a, c, zs, h1, h2, h3⟩
end
end Go.Proofs.YtaihkpjbnkgmlaaGreat

/- Figures and lists of integers that came in, opened. -/
namespace Go.Proofs.YtaihkpjbnkgmlaaGreat
open Go.ChangeShapes Go.WideShapes Go.ChangeAt Go.RowKit

def Rt.weight (r : Rt) : Nat := r.num.length + r.den.length
def Step.weight (s : Step) : Nat := s.point.size + s.args.length + s.ratio.weight + 1
def Fct.weight (s : Fct) : Nat := s.args.length + s.ratio.weight + 1
def Fig.weight (f : Fig) : Nat := (f.steps.map Step.weight).sum + (f.goals.map Fct.weight).sum
theorem le_sum_map {α : Type} (g : α → Nat) {l : List α} {x : α} (h : x ∈ l) : g x ≤ (l.map g).sum := by
 induction l with
 | nil => cases h
 | cons y l ih =>
  simp only [List.map_cons, List.sum_cons]
  rcases List.mem_cons.1 h with rfl | h
  · omega
  · have := ih h; omega
theorem Fig.few_of {f : Fig} (h : f.weight ≤ 2000000) : f.few := by
 unfold Fig.weight at h
 refine ⟨fun s hs => ?_, fun s hs => ?_⟩
 ·
  have h1 := le_sum_map Step.weight hs
  have h2 : s.weight = s.point.size + s.args.length + (s.ratio.num.length + s.ratio.den.length) + 1 := rfl
  constructor <;> omega
 ·
  have h1 := le_sum_map Fct.weight hs
  have h2 : s.weight = s.args.length + (s.ratio.num.length + s.ratio.den.length) + 1 := rfl
  constructor <;> omega
theorem cellsStep : Tryz.prog.cellsOf 45 = 6 := by kernel_rfl
theorem cellsFct : Tryz.prog.cellsOf 81 = 5 := by kernel_rfl
theorem cellsFig : Tryz.prog.cellsOf 25 = 2 := by kernel_rfl
theorem cellsSteps : Tryz.prog.cellsOf 22 = 1 := by kernel_rfl
theorem cellsFcts : Tryz.prog.cellsOf 23 = 1 := by kernel_rfl

section
variable {H : Type} {enc : TypeId × Value → H} {W : World} {sp : Nat → Bool} {held : Bool}
theorem open_stepc {n : Nat} {cs : List Value} {y : DataW H × List MemPlace} (h : DataW.trod enc Tryz.prog W 0 sp held n 45 cs = some y) :
  ∃ (s : Step) (p : RA), cs = [.int .i64 s.kind, .string s.point, .slice p.aa s.args.length p.ac, .bool s.ratio.neg, .slice p.na s.ratio.num.length p.nc, .slice p.da s.ratio.den.length p.dc] ∧ PartsR W p s.args s.ratio ∧ InInt s.kind ∧ s.point.size ≤ 9223372036854775807 ∧ s.weight ≤ Rows.uptoBulk y.1 := by
 obtain ⟨xs, m, rfl, rfl, hcl, hxl, hf⟩ := DataW.trod_struct Tryz.underlying45 h
 rw [cellsStep] at hcl
 obtain ⟨c0, c1, c2, c3, c4, c5, rfl⟩ := len6 hcl
 obtain ⟨y0, y1, y2, y3, rfl⟩ := len4 (show xs.length = 4 from hxl)
 ·
  have h0 := hf 0 _ rfl
  have h1 := hf 1 _ rfl
  have h2 := hf 2 _ rfl
  have h3 := hf 3 _ rfl
  simp [cellsI, cellsS, cellsInts, cellsRat] at h0 h1 h2 h3
  obtain ⟨kind, e0, rfl, w0⟩ := DataW.trod_int Tryz.underlying3 h0
  obtain ⟨point, e1, rfl, w1⟩ := DataW.trod_string Tryz.underlying9 h1
  obtain ⟨aa, ac, args, e2, r2, w2⟩ := open_intsl h2
  obtain ⟨neg, na, nc, num, da, dc, den, e3, r3, r4, w3⟩ := open_rat h3
  simp at e0 e1 e2 e3
  obtain ⟨rfl, rfl, rfl⟩ := e3
  subst e0 e1 e2
  refine ⟨⟨kind, point, args, ⟨neg, num, den⟩⟩, ⟨aa, ac, na, nc, da, dc⟩, rfl, ⟨r2, r3, r4⟩, inInt_of w0, w1, ?_⟩
  simp [Rows.uptoBulk, Rows.uptoBulkAll, Step.weight, Rt.weight] at w2 w3 ⊢
  have : point.data.size = point.size := rfl
  omega
theorem open_fctc {n : Nat} {cs : List Value} {y : DataW H × List MemPlace} (h : DataW.trod enc Tryz.prog W 0 sp held n 81 cs = some y) :
  ∃ (s : Fct) (p : RA), cs = [.int .i64 s.kind, .slice p.aa s.args.length p.ac, .bool s.ratio.neg, .slice p.na s.ratio.num.length p.nc, .slice p.da s.ratio.den.length p.dc] ∧ PartsR W p s.args s.ratio ∧ InInt s.kind ∧ s.weight ≤ Rows.uptoBulk y.1 := by
 obtain ⟨xs, m, rfl, rfl, hcl, hxl, hf⟩ := DataW.trod_struct Tryz.underlying81 h
 rw [cellsFct] at hcl
 obtain ⟨c0, c2, c3, c4, c5, rfl⟩ := len5 hcl
 obtain ⟨y0, y2, y3, rfl⟩ := len3 (show xs.length = 3 from hxl)
 ·
  have h0 := hf 0 _ rfl
  have h2 := hf 1 _ rfl
  have h3 := hf 2 _ rfl
  simp [cellsI, cellsInts, cellsRat] at h0 h2 h3
  obtain ⟨kind, e0, rfl, w0⟩ := DataW.trod_int Tryz.underlying3 h0
  obtain ⟨aa, ac, args, e2, r2, w2⟩ := open_intsl h2
  obtain ⟨neg, na, nc, num, da, dc, den, e3, r3, r4, w3⟩ := open_rat h3
  simp at e0 e2 e3
  obtain ⟨rfl, rfl, rfl⟩ := e3
  subst e0 e2
  refine ⟨⟨kind, args, ⟨neg, num, den⟩⟩, ⟨aa, ac, na, nc, da, dc⟩, rfl, ⟨r2, r3, r4⟩, inInt_of w0, ?_⟩
  simp [Rows.uptoBulk, Rows.uptoBulkAll, Fct.weight, Rt.weight] at w2 w3 ⊢
  omega
theorem open_figc {n : Nat} {cs : List Value} {y : DataW H × List MemPlace} (h : DataW.trod enc Tryz.prog W 0 sp held n 25 cs = some y) :
  ∃ (f : Fig) (sa : Option Addr) (sc : Nat) (ga : Option Addr) (gc : Nat), cs = [.slice sa f.steps.length sc, .slice ga f.goals.length gc] ∧ FigR W sa sc ga gc f ∧ f.weight ≤ Rows.uptoBulk y.1 := by
 obtain ⟨xs, m, rfl, rfl, hcl, hxl, hf⟩ := DataW.trod_struct Tryz.underlying25 h
 rw [cellsFig] at hcl
 obtain ⟨c0, c1, rfl⟩ := len2 hcl
 obtain ⟨y0, y1, rfl⟩ := len2 (show xs.length = 2 from hxl)
 ·
  have h0 := hf 0 _ rfl
  have h1 := hf 1 _ rfl
  simp [cellsSteps, cellsFcts] at h0 h1
  obtain ⟨sa, sc, steps, e0, r0, w0⟩ := open_sl Tryz.underlying22 cellsStep (by omega) h0 StepE Step.weight (fun k cs' y b o hk ht hl hc => by
   obtain ⟨s, p, rfl, hP, hi, hp, hw⟩ := open_stepc ht
   refine ⟨s, ⟨p, ⟨?_, ?_, ?_, ?_, ?_, ?_⟩, hP, hi, hp⟩, hw⟩
   · have := hc 0 (by omega); simpa using this
   · have := hc 1 (by omega); simpa using this
   · have := hc 2 (by omega); simpa using this
   · have := hc 3 (by omega); simpa using this
   · have := hc 4 (by omega); simpa using this
   · have := hc 5 (by omega); simpa using this)
  obtain ⟨ga, gc, goals, e1, r1, w1⟩ := open_sl Tryz.underlying23 cellsFct (by omega) h1 FctE Fct.weight (fun k cs' y b o hk ht hl hc => by
   obtain ⟨s, p, rfl, hP, hi, hw⟩ := open_fctc ht
   refine ⟨s, ⟨p, ⟨?_, ?_, ?_, ?_, ?_⟩, hP, hi⟩, hw⟩
   · have := hc 0 (by omega); simpa using this
   · have := hc 1 (by omega); simpa using this
   · have := hc 2 (by omega); simpa using this
   · have := hc 3 (by omega); simpa using this
   · have := hc 4 (by omega); simpa using this)
  simp at e0 e1
  subst e0 e1
  refine ⟨⟨steps, goals⟩, sa, sc, ga, gc, rfl, ⟨r0, r1⟩, ?_⟩
  simp [Rows.uptoBulk, Rows.uptoBulkAll, Fig.weight] at w0 w1 ⊢
  omega
set_option maxRecDepth 100000 in
/-- A FIGURE THAT CAME IN -/
theorem open_figure {r : Reach} {b0 : Nat} {v : Value} {d : DataW H} {p : List MemPlace} (hv : Value.okWide Tryz.prog W r b0 25 v) (h : DataW.Trod enc Tryz.prog W 0 sp held 25 v d p) :
  ∃ (f : Fig) (sa : Option Addr) (sc : Nat) (ga : Option Addr) (gc : Nat), v = f.val sa sc ga gc ∧ FigR W sa sc ga gc f ∧ f.weight ≤ Rows.uptoBulk d := by
 obtain ⟨cs, rfl, _⟩ := okWide_struct Tryz.underlying25 hv
 obtain ⟨n, hn⟩ := h
 obtain ⟨f, sa, sc, ga, gc, h1, h2, h3⟩ := open_figc hn
 refine ⟨f, sa, sc, ga, gc, ?_, h2, h3⟩
 obtain ⟨l⟩ := cs
 simp [Value.cells] at h1
 simp [Fig.val, h1]
end
end Go.Proofs.YtaihkpjbnkgmlaaGreat

/- Boxes and points that came in, opened. -/
namespace Go.Proofs.YtaihkpjbnkgmlaaGreat
open Go.ChangeShapes Go.WideShapes Go.ChangeAt Go.RowKit

def Rt.heft (r : Rt) : Nat := r.num.length + r.den.length
def Bx.heft (x : Bx) : Nat := x.a.heft + x.b.heft + x.c.heft + x.d.heft
theorem heft_le {α : Type} (g : α → Nat) {l : List α} {x : α} (h : x ∈ l) : g x ≤ (l.map g).sum := by
 induction l with
 | nil => cases h
 | cons y l ih =>
  simp only [List.map_cons, List.sum_cons]
  rcases List.mem_cons.1 h with rfl | h
  · omega
  · have := ih h; omega
theorem boxes_few {l : List Bx} (h : (l.map Bx.heft).sum ≤ 2000000) : ∀ x ∈ l, Bx.few x := fun x hx => by
 have h1 := heft_le Bx.heft hx
 have h2 : x.heft = (x.a.num.length + x.a.den.length) + (x.b.num.length + x.b.den.length) + (x.c.num.length + x.c.den.length) + (x.d.num.length + x.d.den.length) := rfl
 unfold Bx.few Rt.few2
 omega
theorem cellsIv : Tryz.prog.cellsOf 73 = 6 := by kernel_rfl
theorem cellsBox : Tryz.prog.cellsOf 75 = 12 := by kernel_rfl
theorem len12 {α : Type} {l : List α} (h : l.length = 12) : ∃ a b c d e f g h i j k m, l = [a, b, c, d, e, f, g, h, i, j, k, m] := by
 match l, h with
 | [a, b, c, d, e, f, g, h, i, j, k, m], _ => exact ⟨a, b, c, d, e, f, g, h, i, j, k, m, rfl⟩
def QA.list (x : QA) : List Value := [.bool x.neg, .slice x.a x.n x.c, .slice x.b x.m x.d]
section
variable {H : Type} {enc : TypeId × Value → H} {W : World} {sp : Nat → Bool} {held : Bool}
theorem open_ratz {n : Nat} {cs : List Value} {y : DataW H × List MemPlace} (h : DataW.trod enc Tryz.prog W 0 sp held n 43 cs = some y) :
  ∃ (r : Rt) (z : QA), cs = z.list ∧ RtZ W r z ∧ r.heft ≤ Rows.uptoBulk y.1 := by
 obtain ⟨b, na, nc, num, da, dc, den, e, h1, h2, h3⟩ := open_rat h
 refine ⟨⟨b, num, den⟩, ⟨b, num.length, na, nc, den.length, da, dc⟩, e, ⟨rfl, rfl, rfl, h1, h2⟩, ?_⟩
 unfold Rt.heft
 dsimp only
 omega
theorem open_ivz {n : Nat} {cs : List Value} {y : DataW H × List MemPlace} (h : DataW.trod enc Tryz.prog W 0 sp held n 73 cs = some y) :
  ∃ (r s : Rt) (z v : QA), cs = z.list ++ v.list ∧ RtZ W r z ∧ RtZ W s v ∧ r.heft + s.heft ≤ Rows.uptoBulk y.1 := by
 obtain ⟨xs, m, rfl, rfl, hcl, hxl, hf⟩ := DataW.trod_struct Tryz.underlying73 h
 rw [cellsIv] at hcl
 obtain ⟨c0, c1, c2, c3, c4, c5, rfl⟩ := len6 hcl
 obtain ⟨y0, y1, rfl⟩ := len2 (show xs.length = 2 from hxl)
 have h0 := hf 0 _ rfl
 have h1 := hf 1 _ rfl
 simp [cellsRat] at h0 h1
 obtain ⟨r, z, e0, r0, w0⟩ := open_ratz h0
 obtain ⟨s, v, e1, r1, w1⟩ := open_ratz h1
 refine ⟨r, s, z, v, ?_, r0, r1, ?_⟩
 · rw [← e0, ← e1]; rfl
 ·
  simp [Rows.uptoBulk, Rows.uptoBulkAll] at w0 w1 ⊢
  omega
theorem open_boxz {n : Nat} {cs : List Value} {y : DataW H × List MemPlace} (h : DataW.trod enc Tryz.prog W 0 sp held n 75 cs = some y) :
  ∃ (x : Bx) (z1 z2 z3 z4 : QA), cs = z1.list ++ z2.list ++ (z3.list ++ z4.list) ∧ RtZ W x.a z1 ∧ RtZ W x.b z2 ∧ RtZ W x.c z3 ∧ RtZ W x.d z4 ∧ x.heft ≤ Rows.uptoBulk y.1 := by
 obtain ⟨xs, m, rfl, rfl, hcl, hxl, hf⟩ := DataW.trod_struct Tryz.underlying75 h
 rw [cellsBox] at hcl
 obtain ⟨c0, c1, c2, c3, c4, c5, c6, c7, c8, c9, c10, c11, rfl⟩ := len12 hcl
 obtain ⟨y0, y1, rfl⟩ := len2 (show xs.length = 2 from hxl)
 have h0 := hf 0 _ rfl
 have h1 := hf 1 _ rfl
 simp [cellsIv] at h0 h1
 obtain ⟨a, b, z1, z2, e0, r1, r2, w0⟩ := open_ivz h0
 obtain ⟨c, d, z3, z4, e1, r3, r4, w1⟩ := open_ivz h1
 refine ⟨⟨a, b, c, d⟩, z1, z2, z3, z4, ?_, r1, r2, r3, r4, ?_⟩
 · rw [← e0, ← e1]; rfl
 ·
  unfold Bx.heft
  simp [Rows.uptoBulk, Rows.uptoBulkAll] at w0 w1 ⊢
  omega
set_option maxRecDepth 100000 in
/-- BOXES THAT CAME IN -/
theorem open_boxes {r : Reach} {b0 : Nat} {v : Value} {d : DataW H} {p : List MemPlace} (hv : Value.okWide Tryz.prog W r b0 26 v) (h : DataW.Trod enc Tryz.prog W 0 sp held 26 v d p) :
  ∃ (l : List Bx) (a : Option Addr) (c : Nat), v = .slice a l.length c ∧ BoxesR W a c l ∧ (l.map Bx.heft).sum + 1 ≤ Rows.uptoBulk d := by
 obtain ⟨n, hn⟩ := h
 obtain ⟨a, c, zs, h1, h2, h3⟩ := open_sl Tryz.underlying26 cellsBox (by omega) hn BoxE Bx.heft (fun k cs' y b o hk ht hl hc => by
  obtain ⟨x, z1, z2, z3, z4, rfl, r1, r2, r3, r4, hw⟩ := open_boxz ht
  refine ⟨x, ⟨z1, z2, z3, z4, ⟨?_, ?_, ?_⟩, ⟨?_, ?_, ?_⟩, ⟨?_, ?_, ?_⟩, ⟨?_, ?_, ?_⟩, r1, r2, r3, r4⟩, hw⟩
  · have := hc 0 (by omega); simpa [QA.list] using this
  · have := hc 1 (by omega); simpa [QA.list] using this
  · have := hc 2 (by omega); simpa [QA.list] using this
  · have := hc 3 (by omega); simpa [QA.list] using this
  · have := hc 4 (by omega); simpa [QA.list] using this
  · have := hc 5 (by omega); simpa [QA.list] using this
  · have := hc 6 (by omega); simpa [QA.list] using this
  · have := hc 7 (by omega); simpa [QA.list] using this
  · have := hc 8 (by omega); simpa [QA.list] using this
  · have := hc 9 (by omega); simpa [QA.list] using this
  · have := hc 10 (by omega); simpa [QA.list] using this
  · have := hc 11 (by omega); simpa [QA.list] using this)
 obtain ⟨a', l', c', rfl⟩ := okWide_slice Tryz.underlying26 hv
 refine ⟨zs, a, c, ?_, h2, h3⟩
 simpa [Value.cells] using h1
end
end Go.Proofs.YtaihkpjbnkgmlaaGreat
