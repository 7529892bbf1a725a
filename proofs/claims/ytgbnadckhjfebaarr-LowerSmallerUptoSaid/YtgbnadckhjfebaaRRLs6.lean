/- A statement whose order is open, walked once: what only reads is taken as soon as it may come up; what is left comes up one by one. No function of the program in sight. -/
import Derived.Test.YtgbnadckhjfebaaRRLs5
import Derived.Test.YtgbnadckhjfebaaRRLs1
import Derived.OrdersHeld
import Derived.Deep.RegionWith

/- Walk: which points are needed, by the program. -/
namespace Go.Proofs.YtgbnadckhjfebaaRR
open Go.RowKit

set_option maxRecDepth 100000 in
set_option maxHeartbeats 2000000 in
theorem needs_any (f : Fig) (ps : List Int) (sa : Option Addr) (sc : Nat) (ga : Option Addr) (gc : Nat) (pa : Option Addr) (pc : Nat) (w : World) (h : FigR w sa sc ga gc f) (hp : IntsR w pa pc ps) (hl : f.steps.length ≤ 40) (hok : ∀ (k : Nat) (s : Step), f.steps[k]? = some s → ∀ a ∈ s.args, 0 ≤ a ∧ a < (k : Int)) :
    Calls Try.prog 7 #[f.val sa sc ga gc, .slice pa ps.length pc] w (RetI (needs f.steps ps) w) := by
  obtain ⟨steps, goals⟩ := f
  obtain ⟨hS, hG⟩ := h
  have hNd : needs steps ps = trues (marked steps ps) steps.length := rfl
  unfold Fig.val
  dsimp only at hS hG hl hok ⊢
  rw [hNd]
  have hml := marked_len steps ps
  obtain ⟨L, hLE⟩ : ∃ L, marked steps ps = L := ⟨_, rfl⟩
  rw [hLE] at hml ⊢
  have HML := Lib.hid hml
  have HLE := Lib.hid hLE
  clear hNd hml hLE
  have hlp := hp.len
  have hpin : ∀ x ∈ ps, InInt x := fun a ha => by
    obtain ⟨k, hk⟩ := List.mem_iff_getElem?.1 ha
    obtain ⟨b, off, _, hc, hw⟩ := hp.2.2 k a hk
    exact inInt_of hw
  have HS := Lib.hid hS
  have HP := Lib.hid hp
  have HPI := Lib.hid hpin
  have HOK := Lib.hid hok
  have hmk : ∀ w, (Instr.makeSlice 48 (.int .i64 (steps.length : Int)) (.int .i64 (steps.length : Int))).run Try.prog w = .ok (.slice (some ⟨w.heap.size, 0, none⟩) steps.length steps.length) (w.alloc (.cells (madeCells #[.bool false] steps.length) 4)) := fun w => run_make_bool .i64 _ (by omega) w
  clear hS hG hp hok hpin
  have hz := (Blk.new w 25 #[.slice sa steps.length sc, .slice ga goals.length gc]).alloc (.cells (madeCells #[.bool false] steps.length) 4)
  have hB := BlkB.new (w.alloc (.cells #[.slice sa steps.length sc, .slice ga goals.length gc] 25)) steps.length
  rw [show (w.alloc (.cells #[.slice sa steps.length sc, .slice ga goals.length gc] 25)).heap.size = w.heap.size + 1 by simp] at hB
  have hb0 : Below w.heap.size w ((w.alloc (.cells #[.slice sa steps.length sc, .slice ga goals.length gc] 25)).alloc (.cells (madeCells #[.bool false] steps.length) 4)) := ((Below.refl _ _).alloc (Nat.le_refl _) _).alloc (by simp) _
  go_enter Try.func7, Try.ntmps7
  go_wp2
  revert hz hB hb0
  generalize (w.alloc (.cells #[.slice sa steps.length sc, .slice ga goals.length gc] 25)).alloc (.cells (madeCells #[.bool false] steps.length) 4) = w0
  intro hz hB hb0
  clear hmk
  go_loopg [7, 20] ps.length (fun g _ q wr => ∃ (k : Nat) (l : List Bool), k + g = ps.length ∧ q = .int .i64 k ∧ Below w.heap.size w wr ∧ Blk wr w.heap.size 25 #[.slice sa steps.length sc, .slice ga goals.length gc] ∧ BlkB wr (w.heap.size + 1) l ∧ l = mark0 (List.replicate steps.length false) (ps.take k))
  case atStart => exact ⟨0, _, by omega, rfl, hb0, hz, hB, rfl⟩
  case round =>
    obtain ⟨k, l, hkg, rfl, hwr, hzr, hBr, hl⟩ := hrel
    have hll : l.length = steps.length := by rw [hl, mark0_len]; simp
    have HKG := Lib.hid hkg
    have HL := Lib.hid hl
    have HLL := Lib.hid hll
    have HBR := Lib.hid hBr
    have z0 := hzr.cell 0
    have hzl := hzr.lt
    have hBl := hBr.lt
    clear hz hB hb0 hkg hl hBr hll
    by_cases hlt : k < ps.length
    · obtain ⟨x, hx⟩ := get_of_lt hlt
      obtain ⟨b, off, rfl, hc⟩ := (HP.out.ext (Ext.below hwr)).2.2 k x hx
      have hc1 : wr.cell? ⟨b, off + k, none⟩ = some (.int .i64 x) := by simpa using hc.1
      obtain ⟨hx1, hx2⟩ := HPI.out x (List.mem_of_getElem? hx)
      have HX := Lib.hid hx
      clear hc hx
      by_cases hin : 0 ≤ x ∧ x < (steps.length : Int)
      · obtain ⟨h0, hxn⟩ := hin
        have hnext : l.set x.toNat true = mark0 (List.replicate steps.length false) (ps.take (k + 1)) := by
          rw [take_more HX.out, mark0_snoc, ← HL.out, if_pos ⟨h0, by rw [HLL.out]; exact hxn⟩]
        have HNX := Lib.hid hnext
        obtain ⟨y, hy⟩ := get_of_lt (xs := l) (k := x.toNat) (by rw [HLL.out]; omega)
        have cy := HBR.out.cell hy
        have fy := HBR.out.frozen x.toNat
        have hBx := HBR.out.set_ x.toNat true
        have hzx := hzr.far (p := ⟨w.heap.size + 1, x.toNat, none⟩) (by simp) (.bool true)
        have hwx := hwr.setCell (p := ⟨w.heap.size + 1, x.toNat, none⟩) (by simp) (.bool true)
        clear hnext hy
        go_wp2
        go_roundg (gk - 1)
        case rel => exact ⟨k + 1, _, by have := HKG.out; omega, by go_num, hwx, hzx, hBx, HNX.out⟩
        case measure => have := HKG.out; omega
      · have hnext : l = mark0 (List.replicate steps.length false) (ps.take (k + 1)) := by
          rw [take_more HX.out, mark0_snoc, ← HL.out, if_neg (by rw [HLL.out]; exact hin)]
        have HNX := Lib.hid hnext
        clear hnext
        by_cases h0 : 0 ≤ x
        · have hge : (steps.length : Int) ≤ x := by omega
          clear hin
          go_wp2
          go_roundg (gk - 1)
          case rel => exact ⟨k + 1, _, by have := HKG.out; omega, by go_num, hwr, hzr, HBR.out, HNX.out⟩
          case measure => have := HKG.out; omega
        · have h0' : x < 0 := by omega
          clear hin
          go_wp2
          go_roundg (gk - 1)
          case rel => exact ⟨k + 1, _, by have := HKG.out; omega, by go_num, hwr, hzr, HBR.out, HNX.out⟩
          case measure => have := HKG.out; omega
    · obtain ⟨wo, rfl⟩ : ∃ wo : World, wo = wr := ⟨_, rfl⟩
      have hl0 : l = mark0 (List.replicate steps.length false) ps := by
        have := HL.out
        rwa [take_all hlt] at this
      have HL0 := Lib.hid hl0
      clear hl0 HL HKG
      go_wp2
      go_loopg [8] steps.length (fun g q wr => ∃ l2 : List Bool, q = .int .i64 ((g : Int) - 1) ∧ g ≤ steps.length ∧ Below w.heap.size w wr ∧ Blk wr w.heap.size 25 #[.slice sa steps.length sc, .slice ga goals.length gc] ∧ BlkB wr (w.heap.size + 1) l2 ∧ l2.length = steps.length ∧ markDown steps g l2 = L)
      case atStart => exact ⟨l, rfl, Nat.le_refl _, hwr, hzr, HBR.out, HLL.out, by rw [HL0.out]; exact HLE.out⟩
      case round =>
        clear HBR HLL HL0 hwr hzr z0 hzl hBl l
        obtain ⟨l, rfl, hgs, hwr, hzr, hBr, hll, hm⟩ := hrel
        have HBR := Lib.hid hBr
        have HLL := Lib.hid hll
        have HM := Lib.hid hm
        have z0 := hzr.cell 0
        have hzl := hzr.lt
        have hBl := hBr.lt
        clear hBr hll hm
        by_cases hg0 : gk = 0
        · subst hg0
          have hm2 : l = L := HM.out
          have HM2 := Lib.hid hm2
          clear hm2
          have HB2 := HBR.out
          rw [HM2.out] at HB2
          replace HB2 := Lib.hid HB2
          clear HBR HLL HM HM2 z0 hzr
          go_wp2
          go_loopg [11, 12, 13, 73] steps.length (fun n s _ _ q wr => ∃ (k : Nat) (a : Option Addr) (c : Nat), k + n = steps.length ∧ q = .int .i64 k ∧ s = .slice a (trues L k).length c ∧ OwnI w.heap.size wr a c (trues L k) ∧ BlkB wr (w.heap.size + 1) L ∧ Below w.heap.size w wr)
          case atStart => exact ⟨0, none, 0, by omega, rfl, rfl, Own.nil, HB2.out, hwr⟩
          case round =>
            clear HB2 hwr
            obtain ⟨k, a, c, hkg, rfl, rfl, ho, hB, hw⟩ := hrel
            have HKG := Lib.hid hkg
            have HO := Lib.hid ho
            have HB := Lib.hid hB
            have hgl := hB.lt
            have hlt0 := trues_len L k
            clear hkg ho hB
            by_cases hlt : k < steps.length
            · obtain ⟨y, hy⟩ := get_of_lt (xs := L) (k := k) (by rw [HML.out]; exact hlt)
              have cy := HB.out.cell hy
              have HY := Lib.hid hy
              clear hy
              cases y
              · have HT := Lib.hid (trues_false HY.out)
                go_wp2
                go_roundg (gk - 1)
                case rel => exact ⟨k + 1, a, c, by have := HKG.out; omega, by go_num, by rw [HT.out], by rw [HT.out]; exact HO.out, HB.out, hw⟩
                case measure => have := HKG.out; omega
              · have HT := Lib.hid (trues_true HY.out)
                go_wp2_with (at_builtin; go_must (refine append_int rfl (.tmp 79) (.tmp 81) rfl a c rfl (HO.out.alloc _) (k : Int) wr.heap.size 1 rfl (by simp) (trues L k ++ [(k : Int)]) rfl (by simp; omega) (by have := hw.size; simp; omega) ?_); intro a2 c2 w2 ho2 hg2 hx2)
                go_roundg (gk - 1)
                case rel =>
                  have hb1 : Below w.heap.size w w2 := below_append' (hw.alloc hw.size _) (HO.out.alloc _) hg2
                  have hB2 : BlkB w2 (w.heap.size + 1) L := Blk.grown (Blk.alloc HB.out (.cells #[.int .i64 (k : Int)] 3)) hg2 (Own.ne_blk (HO.out.alloc (.cells #[.int .i64 (k : Int)] 3)) (Blk.alloc HB.out (.cells #[.int .i64 (k : Int)] 3)) int_ne_bool)
                  exact ⟨k + 1, a2, c2, by have := HKG.out; omega, by go_num, by rw [HT.out]; simp, by rw [HT.out]; exact ho2, hB2, hb1⟩
                case measure => have := HKG.out; omega
            · obtain rfl : k = steps.length := by have := HKG.out; omega
              go_wp2
              go_ret
              exact ⟨a, c, rfl, HO.out, hw⟩
        · have hge : (0 : Int) ≤ (gk : Int) - 1 := by omega
          have hdec : decide ((0 : Int) ≤ (gk : Int) - 1) = true := by simp; omega
          obtain ⟨s, hs⟩ := get_of_lt (xs := steps) (k := gk - 1) (by omega)
          obtain ⟨b, off, rfl, ⟨aa, ac, na, nc, da, dc⟩, hC, hPa, _, _⟩ := HS.out.2.2 (gk - 1) s hs
          replace hC := hC.ext (Ext.below hwr)
          obtain ⟨y, hy⟩ := get_of_lt (xs := l) (k := gk - 1) (by rw [HLL.out]; omega)
          have cy := HBR.out.cell hy
          have hms : markDown steps gk l = markDown steps (gk - 1) (markStep steps (gk - 1) l) := by
            conv => lhs; rw [show gk = gk - 1 + 1 by omega]
            rfl
          have hstep : markStep steps (gk - 1) l = if y = true then markArgs l s.args else l := by
            unfold markStep
            rw [getD_some hy, take_getD hs]
          rw [hstep] at hms
          have HMS := Lib.hid hms
          have HY := Lib.hid hy
          have HSS := Lib.hid hs
          clear hms hstep hy hs
          obtain ⟨c0, c1, c2, c3, c4, c5⟩ := hC
          obtain ⟨hPI, _, _⟩ := hPa
          have hpl := hPI.len
          have HPA := Lib.hid hPI
          obtain ⟨wo, rfl⟩ : ∃ wo : World, wo = wr := ⟨_, rfl⟩
          obtain ⟨g0, rfl⟩ : ∃ g0 : Nat, g0 = gk := ⟨_, rfl⟩
          have hpin : ∀ x ∈ s.args, InInt x := fun a ha => by
            obtain ⟨k, hk⟩ := List.mem_iff_getElem?.1 ha
            obtain ⟨b, off, _, hc, hw⟩ := HPA.out.2.2 k a hk
            exact inInt_of hw
          replace hpin := Lib.hid hpin
          clear hPI c0 c1 c3 c4 c5 cy
          cases y
          · have HN := HMS.out
            rw [if_neg (by simp), HM.out] at HN
            replace HN := Lib.hid HN
            go_wp2
            go_loopg [50] s.args.length (fun g q wr => ∃ k : Nat, k + g = s.args.length ∧ q = .int .i64 k ∧ Below w.heap.size w wr ∧ Blk wr w.heap.size 25 #[.slice (some ⟨b, off, none⟩) steps.length sc, .slice ga goals.length gc] ∧ BlkB wr (w.heap.size + 1) l)
            case atStart => exact ⟨0, by omega, rfl, hwr, hzr, HBR.out⟩
            case round =>
              clear hBl hzl z0
              obtain ⟨k3, hkg3, rfl, hwr3, hzr3, hBr3⟩ := hrel
              have HKG3 := Lib.hid hkg3
              have HB3 := Lib.hid hBr3
              have z0 := hzr3.cell 0
              have hzl := hzr3.lt
              have hBl := hBr3.lt
              have cy := hBr3.cell HY.out
              clear hkg3 hBr3
              by_cases hlt3 : k3 < s.args.length
              · obtain ⟨x, hx⟩ := get_of_lt hlt3
                obtain ⟨ba, oa, rfl, hcx⟩ := HPA.out.2.2 k3 x hx
                have hcx1 : wr.cell? ⟨ba, oa + k3, none⟩ = some (.int .i64 x) := by simpa using (hcx.ext (Ext.below hwr3)).1
                clear hx hcx
                go_wp2
                go_roundg (gk - 1)
                case rel => exact ⟨k3 + 1, by have := HKG3.out; omega, by go_num, hwr3, hzr3, HB3.out⟩
                case measure => have := HKG3.out; omega
              · go_wp2
                go_roundg (g0 - 1)
                case rel => exact ⟨l, by congr 1; omega, by omega, hwr3, hzr3, HB3.out, HLL.out, HN.out.symm⟩
                case measure => omega
          · have HN := HMS.out
            rw [if_pos rfl, HM.out] at HN
            replace HN := Lib.hid HN
            go_wp2
            go_loopg [50] s.args.length (fun g q wr => ∃ k : Nat, k + g = s.args.length ∧ q = .int .i64 k ∧ Below w.heap.size w wr ∧ Blk wr w.heap.size 25 #[.slice (some ⟨b, off, none⟩) steps.length sc, .slice ga goals.length gc] ∧ BlkB wr (w.heap.size + 1) (markArgs l (s.args.take k)))
            case atStart => exact ⟨0, by omega, rfl, hwr, hzr, HBR.out⟩
            case round =>
              clear hBl hzl z0
              obtain ⟨k3, hkg3, rfl, hwr3, hzr3, hBr3⟩ := hrel
              have HKG3 := Lib.hid hkg3
              have HB3 := Lib.hid hBr3
              have z0 := hzr3.cell 0
              have hzl := hzr3.lt
              have hBl := hBr3.lt
              have hyk : (markArgs l (s.args.take k3))[g0 - 1]? = some true := by
                rw [markArgs_far _ _ _ (fun a ha => HOK.out _ _ HSS.out a (List.mem_of_mem_take ha))]; exact HY.out
              have cyk := hBr3.cell hyk
              clear hkg3 hBr3 hyk
              by_cases hlt3 : k3 < s.args.length
              · obtain ⟨x, hx⟩ := get_of_lt hlt3
                obtain ⟨ba, oa, rfl, hcx⟩ := HPA.out.2.2 k3 x hx
                have hcx1 : wr.cell? ⟨ba, oa + k3, none⟩ = some (.int .i64 x) := by simpa using (hcx.ext (Ext.below hwr3)).1
                have hxr := HOK.out _ _ HSS.out x (List.mem_of_getElem? hx)
                obtain ⟨hx0, hx1⟩ := hxr
                have hxs : x < (steps.length : Int) := by omega
                have hxg : x < (g0 : Int) - 1 := by omega
                have hnx : markArgs l (s.args.take (k3 + 1)) = (markArgs l (s.args.take k3)).set x.toNat true := by rw [take_more hx, markArgs_snoc]
                obtain ⟨y, hy⟩ := get_of_lt (xs := markArgs l (s.args.take k3)) (k := x.toNat) (by rw [markArgs_len, HLL.out]; omega)
                have cy := HB3.out.cell hy
                have fy := HB3.out.frozen x.toNat
                have hBx := HB3.out.set_ x.toNat true
                rw [← hnx] at hBx
                have hzx := hzr3.far (p := ⟨w.heap.size + 1, x.toNat, none⟩) (by simp) (.bool true)
                have hwx := hwr3.setCell (p := ⟨w.heap.size + 1, x.toNat, none⟩) (by simp) (.bool true)
                clear hnx hy hx hcx
                go_wp2
                go_roundg (gk - 1)
                case rel => exact ⟨k3 + 1, by have := HKG3.out; omega, by go_num, hwx, hzx, hBx⟩
                case measure => have := HKG3.out; omega
              · have hall : markArgs l (s.args.take k3) = markArgs l s.args := by rw [take_all hlt3]
                have hfin := HB3.out
                rw [hall] at hfin
                clear hall
                go_wp2
                go_roundg (g0 - 1)
                case rel => exact ⟨markArgs l s.args, by congr 1; omega, by omega, hwr3, hzr3, hfin, by rw [markArgs_len, HLL.out], HN.out.symm⟩
                case measure => omega
end Go.Proofs.YtgbnadckhjfebaaRR

/- A statement whose order is open, walked once: what only reads is taken as soon as it may come up; what is left comes up one by one. No function of the program in sight. -/
namespace Go.Proofs.YtgbnadckhjfebaaRR
open Go.RowKit

section
variable {P : Program} {ops : Array Oper} {Q : Exit → Act → World → Prop} {md : Region.Mode} {S : World → Prop}

/-- what has come up holds, with each operation, all that it waits for -/
def Closed (md : Region.Mode) (ops : Array Oper) (listed : Array Bool) : Prop :=
  ∀ k o, ops[k]? = some o → listed.getD k false = true → ∀ e ∈ o.after, Region.binds md e = true → listed.getD e.on false = true
theorem Closed.set_ {listed : Array Bool} {j : Nat} (h : Closed md ops listed) (hj : j ∈ Region.ready md ops listed) : Closed md ops (listed.setIfInBounds j true) := by
  intro k o ho hk e he hb
  obtain ⟨_, oj, hoj, hall⟩ := mem_ready.1 hj
  by_cases hkj : j = k
  · subst hkj
    rw [hoj] at ho
    injection ho with ho
    subst ho
    exact getD_set_true (hall e he hb)
  · rw [getD_set_ne false hkj] at hk
    exact getD_set_true (h k o ho hk e he hb)
/-- does operation j wait for i, over at most so many others? -/
def dep (md : Region.Mode) (ops : Array Oper) : Nat → Nat → Nat → Bool
  | 0, _, _ => false
  | n + 1, j, i => match ops[j]? with
    | none => false
    | some o => o.after.any fun e => Region.binds md e && (e.on == i || dep md ops n e.on i)
theorem dep_listed {listed : Array Bool} (h : Closed md ops listed) : ∀ (n j i : Nat) (oj : Oper), ops[j]? = some oj → dep md ops n j i = true →
    (∀ e ∈ oj.after, Region.binds md e = true → listed.getD e.on false = true) → listed.getD i false = true
  | 0, _, _, _, _, hd, _ => by simp [dep] at hd
  | n + 1, j, i, oj, hoj, hd, hall => by
    simp only [dep, hoj] at hd
    obtain ⟨e, he, hb⟩ := Array.any_eq_true'.1 hd
    simp only [Bool.and_eq_true, Bool.or_eq_true, beq_iff_eq] at hb
    rcases hb.2 with h1 | h1
    · rw [← h1]; exact hall e he hb.1
    · have hl := hall e he hb.1
      cases ho : ops[e.on]? with
      | none =>
        cases n with
        | zero => simp [dep] at h1
        | succ n => simp [dep, ho] at h1
      | some oe => exact dep_listed h n e.on i oe ho h1 (fun e' he' hb' => h e.on oe ho hl e' he' hb')

/-- whatever order is picked from here on; behind each operation that is not of the tail S holds -/
def wpAnyX (P : Program) (md : Region.Mode) (ops : Array Oper) (Q : Exit → Act → World → Prop) (S : World → Prop) (tl : Nat → Bool) : Nat → Array Bool → Act → World → Prop
  | 0, listed, a, w => Region.ready md ops listed = [] ∧ Q .normal a w
  | fuel + 1, listed, a, w =>
    (Region.ready md ops listed = [] → Q .normal a w) ∧
    ∀ i ∈ Region.ready md ops listed, wpOp P ops Q i (fun a' w' => (tl i = false → S w') ∧ wpAnyX P md ops Q S tl fuel (listed.setIfInBounds i true) a' w') a w
theorem wpAny_of_X {tl : Nat → Bool} : ∀ (fuel : Nat) (listed : Array Bool) (a : Act) (w : World), wpAnyX P md ops Q S tl fuel listed a w → wpAny P md ops Q fuel listed a w
  | 0, _, _, _, h => h
  | fuel + 1, _, _, _, h => ⟨h.1, fun i hi => wpOp_mono (fun a' w' h' => wpAny_of_X fuel _ a' w' h'.2) (h.2 i hi)⟩

theorem wpAnyX_first {tl : Nat → Bool} {i : Nat} {oi : Oper} {v : Value} (hi : ops[i]? = some oi) (hti : tl i = false) (hsel : ∀ (j : Nat) (o : Oper) cs b, ops[j]? = some o → o.op ≠ .select cs b)
    (hQ : ∀ c a w, Q (.panic c) (a.put oi.dst v) w → Q (.panic c) a w) :
    ∀ (fuel : Nat) (listed : Array Bool) (a : Act) (w : World),
      (∀ j oj, ops[j]? = some oj → j ≠ i → listed.getD j true = false → (∀ e ∈ oj.after, Region.binds md e = true → e.on ≠ i) → oi.apart ops oj = true) →
      (∀ j, tl j = true → dep md ops ops.size j i = true) → Closed md ops listed →
      i ∈ Region.ready md ops listed → YieldsIf P ops S oi v a → S w →
      wpAnyX P md ops Q S tl fuel (listed.setIfInBounds i true) (a.put oi.dst v) w → wpAnyX P md ops Q S tl (fuel + 1) listed a w := by
  intro fuel
  induction fuel with
  | zero =>
    intro listed a w _ _ _ hr hy hS H
    refine ⟨fun h => (by rw [h] at hr; cases hr), fun j hj => ?_⟩
    by_cases hji : j = i
    · subst hji; exact hy.wpOp hi hS ⟨fun _ => hS, H⟩
    · have := ready_mono hj hji
      rw [H.1] at this
      cases this
  | succ fuel ih =>
    intro listed a w hfree htl hcl hr hy hS H
    refine ⟨fun h => (by rw [h] at hr; cases hr), fun j hj => ?_⟩
    by_cases hji : j = i
    · subst hji; exact hy.wpOp hi hS ⟨fun _ => hS, H⟩
    · have h1 := H.2 j (ready_mono hj hji)
      obtain ⟨hjun, oj, hoj, hall⟩ := mem_ready.1 hj
      have hiun := (mem_ready.1 hr).1
      have hnl : listed.getD i false = false := by
        rcases Nat.lt_or_ge i listed.size with h' | h'
        · simp [h'] at hiun ⊢; exact hiun
        · simp [Array.getElem?_eq_none h']
      have htj : tl j = false := by
        cases htj : tl j with
        | false => rfl
        | true =>
          have := dep_listed hcl ops.size j i oj hoj (htl j htj) hall
          rw [hnl] at this; cases this
      have hnot : ∀ e ∈ oj.after, Region.binds md e = true → e.on ≠ i := fun e he hb heq => by
        have h1 := hall e he hb
        rw [heq, hnl] at h1; cases h1
      have h2 := wpOp_putIf hoj (hfree j oj hoj hji hjun hnot) (fun cs b => hsel i oi cs b hi) (fun cs b => hsel j oj cs b hoj) hQ hy h1
      have hfree' : ∀ k ok, ops[k]? = some ok → k ≠ i → (listed.setIfInBounds j true).getD k true = false →
          (∀ e ∈ ok.after, Region.binds md e = true → e.on ≠ i) → oi.apart ops ok = true := fun k ok hk hki hun hno => by
        refine hfree k ok hk hki ?_ hno
        by_cases hjk : j = k
        · subst hjk; exact hjun
        · rw [getD_set_ne true hjk] at hun; exact hun
      refine wpOp_mono (fun a' w' h3 => ⟨h3.2.1, ih (listed.setIfInBounds j true) a' w' hfree' htl (hcl.set_ hj) (ready_mono hr (Ne.symm hji)) h3.1 (h3.2.1 htj) ?_⟩) h2
      rw [Array.setIfInBounds_comm _ _ hji]
      exact h3.2.2

/-- the same for an operation that yields in whatever world: nothing is asked of the tail -/
theorem wpAnyX_pure {tl : Nat → Bool} {i : Nat} {oi : Oper} {v : Value} (hi : ops[i]? = some oi) (hti : tl i = true) (hsel : ∀ (j : Nat) (o : Oper) cs b, ops[j]? = some o → o.op ≠ .select cs b)
    (hQ : ∀ c a w, Q (.panic c) (a.put oi.dst v) w → Q (.panic c) a w) :
    ∀ (fuel : Nat) (listed : Array Bool) (a : Act) (w : World),
      (∀ j oj, ops[j]? = some oj → j ≠ i → listed.getD j true = false → (∀ e ∈ oj.after, Region.binds md e = true → e.on ≠ i) → oi.apart ops oj = true) →
      i ∈ Region.ready md ops listed → Yields P ops oi v a →
      wpAnyX P md ops Q S tl fuel (listed.setIfInBounds i true) (a.put oi.dst v) w → wpAnyX P md ops Q S tl (fuel + 1) listed a w := by
  intro fuel
  induction fuel with
  | zero =>
    intro listed a w _ hr hy H
    refine ⟨fun h => (by rw [h] at hr; cases hr), fun j hj => ?_⟩
    by_cases hji : j = i
    · subst hji; exact hy.wpOp hi ⟨(fun h => by rw [hti] at h; cases h), H⟩
    · have := ready_mono hj hji
      rw [H.1] at this
      cases this
  | succ fuel ih =>
    intro listed a w hfree hr hy H
    refine ⟨fun h => (by rw [h] at hr; cases hr), fun j hj => ?_⟩
    by_cases hji : j = i
    · subst hji; exact hy.wpOp hi ⟨(fun h => by rw [hti] at h; cases h), H⟩
    · have h1 := H.2 j (ready_mono hj hji)
      obtain ⟨hjun, oj, hoj, hall⟩ := mem_ready.1 hj
      have hiun := (mem_ready.1 hr).1
      have hnl : listed.getD i false = false := by
        rcases Nat.lt_or_ge i listed.size with h' | h'
        · simp [h'] at hiun ⊢; exact hiun
        · simp [Array.getElem?_eq_none h']
      have hnot : ∀ e ∈ oj.after, Region.binds md e = true → e.on ≠ i := fun e he hb heq => by
        have h1 := hall e he hb
        rw [heq, hnl] at h1; cases h1
      have h2 := wpOp_put hoj (hfree j oj hoj hji hjun hnot) (fun cs b => hsel i oi cs b hi) (fun cs b => hsel j oj cs b hoj) hQ hy h1
      have hfree' : ∀ k ok, ops[k]? = some ok → k ≠ i → (listed.setIfInBounds j true).getD k true = false →
          (∀ e ∈ ok.after, Region.binds md e = true → e.on ≠ i) → oi.apart ops ok = true := fun k ok hk hki hun hno => by
        refine hfree k ok hk hki ?_ hno
        by_cases hjk : j = k
        · subst hjk; exact hjun
        · rw [getD_set_ne true hjk] at hun; exact hun
      refine wpOp_mono (fun a' w' h3 => ⟨h3.2.1, ih (listed.setIfInBounds j true) a' w' hfree' (ready_mono hr (Ne.symm hji)) h3.1 ?_⟩) h2
      rw [Array.setIfInBounds_comm _ _ hji]
      exact h3.2.2

/-- how an operation is taken: read while S holds · any other while S holds · any other of the tail, where S is asked no more · of the tail, and the same in whatever world -/
inductive Mode4 where
  | q | l | t | p
  deriving DecidableEq

def Mode4.tail : Mode4 → Bool
  | .t => true
  | .p => true
  | _ => false
/-- which numbers are of the tail -/
def tailOf (l : List (Nat × Mode4)) (i : Nat) : Bool := l.any fun x => x.1 == i && x.2.tail

/-- may the operations come up in this order? -/
def mixB (md : Region.Mode) (ops : Array Oper) : List (Nat × Mode4) → Array Bool → Bool
  | [], listed => (Region.ready md ops listed).isEmpty
  | (i, .q) :: r, listed => Region.free md ops listed i && ((Region.ready md ops listed).contains i && mixB md ops r (listed.setIfInBounds i true))
  | (i, .p) :: r, listed => Region.free md ops listed i && ((Region.ready md ops listed).contains i && mixB md ops r (listed.setIfInBounds i true))
  | (i, _) :: r, listed => (Region.ready md ops listed == [i]) && mixB md ops r (listed.setIfInBounds i true)
/-- no number twice; what reads comes ahead of the tail; what is of the tail waits for all that reads -/
def orderB (md : Region.Mode) (ops : Array Oper) (l : List (Nat × Mode4)) : Bool :=
  decide (l.map (·.1)).Nodup && l.all (fun x => match x.2 with
    | .q => l.all fun y => !y.2.tail || dep md ops ops.size y.1 x.1
    | _ => true)
/-- behind the first of the tail nothing reads any more -/
def lateB : List (Nat × Mode4) → Bool → Bool
  | [], _ => true
  | (_, m) :: r, late => (!(late && (m == .q || m == .l))) && lateB r (late || m.tail)

/-- an operation by its number, so that it is read off the list as it is written -/
def opAt (ops : Array Oper) (i : Nat) : Option Oper := (ops.toList.drop i).head?
theorem opAt_eq (ops : Array Oper) (i : Nat) : opAt ops i = ops[i]? := by simp [opAt]
/-- the walk in that order -/
def wpMix (P : Program) (ops : Array Oper) (Q : Exit → Act → World → Prop) (S : World → Prop) : List (Nat × Mode4) → Act → World → Prop
  | [], a, w => Q .normal a w
  | (i, m) :: r, a, w => match opAt ops i with
    | none => False
    | some o => if Region.wanted o (yielded ops a.tmps) = true then
        (match m with
          | .q => ∃ v, (∀ w', S w' → (execOp a.eval o).run P w' = .ok (.value v) w') ∧ wpMix P ops Q S r (a.put o.dst v) w
          | .p => ∃ v, (∀ w', (execOp a.eval o).run P w' = .ok (.value v) w') ∧ wpMix P ops Q S r (a.put o.dst v) w
          | .l => o.wp P a w (fun a' w' => S w' ∧ wpMix P ops Q S r a' w') Q
          | .t => o.wp P a w (fun a' w' => wpMix P ops Q S r a' w') Q)
      else wpMix P ops Q S r (a.put o.dst undef) w

theorem nodup_snd {l : List (Nat × Mode4)} : ∀ {i : Nat} {m m' : Mode4}, (l.map (·.1)).Nodup → (i, m) ∈ l → (i, m') ∈ l → m = m' := by
  induction l with
  | nil => intro i m m' _ h; cases h
  | cons y l ih =>
    intro i m m' hn h h'
    simp only [List.map_cons, List.nodup_cons] at hn
    rcases List.mem_cons.1 h with h1 | h1 <;> rcases List.mem_cons.1 h' with h2 | h2
    · rw [← h1] at h2; injection h2 with _ e; exact e.symm
    · subst h1; exact absurd (List.mem_map.2 ⟨_, h2, rfl⟩) hn.1
    · subst h2; exact absurd (List.mem_map.2 ⟨_, h1, rfl⟩) hn.1
    · exact ih hn.2 h1 h2
theorem tailOf_mem {l : List (Nat × Mode4)} {i : Nat} {m : Mode4} (hn : (l.map (·.1)).Nodup) (h : (i, m) ∈ l) : tailOf l i = m.tail := by
  unfold tailOf
  rw [Bool.eq_iff_iff, List.any_eq_true]
  constructor
  · rintro ⟨⟨j, m'⟩, hj, hb⟩
    simp only [Bool.and_eq_true, beq_iff_eq] at hb
    obtain ⟨rfl, hb⟩ := hb
    have : m' = m := nodup_snd hn hj h
    rw [← this]; exact hb
  · intro hb
    exact ⟨(i, m), h, by simp [hb]⟩
theorem mem_of_tail {l : List (Nat × Mode4)} {j : Nat} (h : tailOf l j = true) : ∃ m, (j, m) ∈ l ∧ m.tail = true := by
  unfold tailOf at h
  obtain ⟨⟨i, m⟩, hm, hb⟩ := List.any_eq_true.1 h
  simp only [Bool.and_eq_true, beq_iff_eq] at hb
  obtain ⟨rfl, hb⟩ := hb
  exact ⟨m, hm, hb⟩

theorem wpMix_any (hs : Region.noSelect ops = true) (hQ : ∀ d v c a w, Q (.panic c) (a.put d v) w → Q (.panic c) a w) (L : List (Nat × Mode4)) (hL : orderB md ops L = true) :
    ∀ (l : List (Nat × Mode4)) (listed : Array Bool) (a : Act) (w : World) (late : Bool), (∀ x ∈ l, x ∈ L) → mixB md ops l listed = true → lateB l late = true → Closed md ops listed → (late = false → S w) → wpMix P ops Q S l a w →
      wpAnyX P md ops Q S (tailOf L) l.length listed a w
  | [], listed, a, w, _, _, hB, _, _, _, h => by
    unfold wpAnyX
    exact ⟨by simpa [mixB] using hB, h⟩
  | (i, m) :: r, listed, a, w, late, hsub, hB, hlate, hcl, hS, h => by
    have hL' := hL
    simp only [orderB, Bool.and_eq_true, decide_eq_true_eq, List.all_eq_true] at hL'
    have hti := tailOf_mem hL'.1 (hsub (i, m) (by simp))
    have hsub' : ∀ x ∈ r, x ∈ L := fun x hx => hsub x (by simp [hx])
    simp only [lateB, Bool.and_eq_true] at hlate
    unfold wpMix at h
    rw [opAt_eq] at h
    cases ho : ops[i]? with
    | none => rw [ho] at h; exact h.elim
    | some o =>
      rw [ho] at h
      simp only at h
      cases m with
      | q =>
        simp only [mixB, Bool.and_eq_true] at hB
        obtain ⟨h1, h2, h3⟩ := hB
        have hnl : late = false := by
          cases late with
          | false => rfl
          | true => simp at hlate
        have h2' : i ∈ Region.ready md ops listed := by simpa using h2
        have htl : ∀ j, tailOf L j = true → dep md ops ops.size j i = true := fun j hj => by
          obtain ⟨mj, hmj, htj⟩ := mem_of_tail hj
          have := hL'.2 (i, .q) (hsub _ (by simp))
          simp only [List.all_eq_true] at this
          have := this (j, mj) hmj
          simpa [htj] using this
        have hlr : lateB r late = true := by simpa [Mode4.tail] using hlate.2
        by_cases hw : Region.wanted o (yielded ops a.tmps) = true
        · rw [if_pos hw] at h
          obtain ⟨v, hv, hn⟩ := h
          exact wpAnyX_first ho hti (Region.noSelect_spec hs) (fun c a w => hQ _ _ c a w) _ _ _ _ (Region.free_spec ho h1) htl hcl h2' (.inl ⟨hw, hv⟩) (hS hnl) (wpMix_any hs hQ L hL r _ _ _ late hsub' h3 hlr (hcl.set_ h2') hS hn)
        · rw [if_neg hw] at h
          exact wpAnyX_first ho hti (Region.noSelect_spec hs) (fun c a w => hQ _ _ c a w) _ _ _ _ (Region.free_spec ho h1) htl hcl h2' (.inr ⟨by simpa using hw, rfl⟩) (hS hnl) (wpMix_any hs hQ L hL r _ _ _ late hsub' h3 hlr (hcl.set_ h2') hS h)
      | p =>
        simp only [mixB, Bool.and_eq_true] at hB
        obtain ⟨h1, h2, h3⟩ := hB
        have h2' : i ∈ Region.ready md ops listed := by simpa using h2
        have hlr : lateB r true = true := by simpa [Mode4.tail] using hlate.2
        by_cases hw : Region.wanted o (yielded ops a.tmps) = true
        · rw [if_pos hw] at h
          obtain ⟨v, hv, hn⟩ := h
          exact wpAnyX_pure ho hti (Region.noSelect_spec hs) (fun c a w => hQ _ _ c a w) _ _ _ _ (Region.free_spec ho h1) h2' (.inl ⟨hw, hv⟩) (wpMix_any hs hQ L hL r _ _ _ true hsub' h3 hlr (hcl.set_ h2') (fun h => by cases h) hn)
        · rw [if_neg hw] at h
          exact wpAnyX_pure ho hti (Region.noSelect_spec hs) (fun c a w => hQ _ _ c a w) _ _ _ _ (Region.free_spec ho h1) h2' (.inr ⟨by simpa using hw, rfl⟩) (wpMix_any hs hQ L hL r _ _ _ true hsub' h3 hlr (hcl.set_ h2') (fun h => by cases h) h)
      | l =>
        simp only [mixB, Bool.and_eq_true, beq_iff_eq] at hB
        obtain ⟨h1, h3⟩ := hB
        have h2' : i ∈ Region.ready md ops listed := by rw [h1]; simp
        have hlr : lateB r late = true := by simpa [Mode4.tail] using hlate.2
        unfold wpAnyX
        refine ⟨(fun h0 => by rw [h1] at h0; cases h0), fun j hj => ?_⟩
        obtain rfl : j = i := by rw [h1] at hj; simpa using hj
        unfold wpOp
        rw [ho]
        simp only
        by_cases hw : Region.wanted o (yielded ops a.tmps) = true
        · rw [if_pos hw] at h ⊢
          exact .inl (Oper.wp_mono (fun a' w' hh => ⟨fun _ => hh.1, wpMix_any hs hQ L hL r _ a' w' late hsub' h3 hlr (hcl.set_ h2') (fun _ => hh.1) hh.2⟩) h)
        · rw [if_neg hw] at h ⊢
          cases late with
          | false => exact ⟨fun _ => hS rfl, wpMix_any hs hQ L hL r _ _ _ false hsub' h3 hlr (hcl.set_ h2') hS h⟩
          | true => simp at hlate
      | t =>
        simp only [mixB, Bool.and_eq_true, beq_iff_eq] at hB
        obtain ⟨h1, h3⟩ := hB
        have h2' : i ∈ Region.ready md ops listed := by rw [h1]; simp
        have hlr : lateB r true = true := by simpa [Mode4.tail] using hlate.2
        unfold wpAnyX
        refine ⟨(fun h0 => by rw [h1] at h0; cases h0), fun j hj => ?_⟩
        obtain rfl : j = i := by rw [h1] at hj; simpa using hj
        unfold wpOp
        rw [ho]
        simp only
        have hno : tailOf L j = false → False := fun h => by rw [hti] at h; cases h
        by_cases hw : Region.wanted o (yielded ops a.tmps) = true
        · rw [if_pos hw] at h ⊢
          exact .inl (Oper.wp_mono (fun a' w' hh => ⟨fun h => (hno h).elim, wpMix_any hs hQ L hL r _ a' w' true hsub' h3 hlr (hcl.set_ h2') (fun h => by cases h) hh⟩) h)
        · rw [if_neg hw] at h ⊢
          exact ⟨fun h => (hno h).elim, wpMix_any hs hQ L hL r _ _ _ true hsub' h3 hlr (hcl.set_ h2') (fun h => by cases h) h⟩

-- a goal with this head is never laid open by the way
attribute [irreducible] wpMix

/-- THE REGION: 'l' is the order; S is what every operation ahead of the tail leaves as it is. -/
theorem wp_region_mix {id : Nat} {a : Act} {w : World} (l : List (Nat × Mode4)) (hm : P.follows .mixedOrders = true) (hs : Region.noSelect ops = true)
    (hB : (l.length == ops.size && (orderB .any ops l && (lateB l false && mixB .any ops l (Array.replicate ops.size false)))) = true)
    (hQ : ∀ d v c a w, Q (.panic c) (a.put d v) w → Q (.panic c) a w) (hS : S w.drew) (h : wpMix P ops Q S l a w.drew) : (Code.region id ops true).wp P Q a w := by
  simp only [Bool.and_eq_true, beq_iff_eq] at hB
  refine wp_region_any hm (wpAny_of_X (S := S) (tl := tailOf l) _ _ _ _ ?_)
  have hc : Closed .any ops (Array.replicate ops.size false) := fun k o _ hk => by
    exfalso
    rcases Nat.lt_or_ge k ops.size with h' | h'
    · simp [h'] at hk
    · simp [Nat.not_lt.2 h'] at hk
  have := wpMix_any (md := .any) hs hQ l hB.2.1 l _ a w.drew false (fun _ h => h) hB.2.2.2 hB.2.2.1 hc (fun _ => hS) h
  rwa [hB.1] at this

theorem wpMix_nil {a : Act} {w : World} (h : Q .normal a w) : wpMix P ops Q S [] a w := by unfold wpMix; exact h
/-- an operation whose guard is not met -/
theorem wpMix_skip {i : Nat} {m : Mode4} {r : List (Nat × Mode4)} {o : Oper} {a : Act} {w : World} (ho : opAt ops i = some o) (hw : Region.wanted o (yielded ops a.tmps) = false)
    (h : ∀ K : Act → World → Prop, (∀ a' w', wpMix P ops Q S r a' w' → K a' w') → K (a.put o.dst undef) w) : wpMix P ops Q S ((i, m) :: r) a w := by
  unfold wpMix
  rw [ho]
  simp only
  rw [if_neg (by simp [hw])]
  exact h _ (fun _ _ h => h)
/-- an operation that only reads -/
theorem wpMix_q {i : Nat} {r : List (Nat × Mode4)} {o : Oper} {a : Act} {w : World} (ho : opAt ops i = some o) (hw : Region.wanted o (yielded ops a.tmps) = true)
    (h : ∀ K : Act → World → Prop, (∀ a' w', wpMix P ops Q S r a' w' → K a' w') → ∃ v, (∀ w', S w' → (execOp a.eval o).run P w' = .ok (.value v) w') ∧ K (a.put o.dst v) w) :
    wpMix P ops Q S ((i, .q) :: r) a w := by
  unfold wpMix
  rw [ho]
  simp only
  rw [if_pos hw]
  exact h _ (fun _ _ h => h)
/-- an operation of the tail that is the same in whatever world -/
theorem wpMix_p {i : Nat} {r : List (Nat × Mode4)} {o : Oper} {a : Act} {w : World} (ho : opAt ops i = some o) (hw : Region.wanted o (yielded ops a.tmps) = true)
    (h : ∀ K : Act → World → Prop, (∀ a' w', wpMix P ops Q S r a' w' → K a' w') → ∃ v, (∀ w', (execOp a.eval o).run P w' = .ok (.value v) w') ∧ K (a.put o.dst v) w) :
    wpMix P ops Q S ((i, .p) :: r) a w := by
  unfold wpMix
  rw [ho]
  simp only
  rw [if_pos hw]
  exact h _ (fun _ _ h => h)
/-- any other operation -/
theorem wpMix_l {i : Nat} {r : List (Nat × Mode4)} {o : Oper} {a : Act} {w : World} (ho : opAt ops i = some o) (hw : Region.wanted o (yielded ops a.tmps) = true)
    (h : ∀ K : Act → World → Prop, Hid (∀ a' w', S w' → (S w' → wpMix P ops Q S r a' w') → K a' w') → o.wp P a w K Q) :
    wpMix P ops Q S ((i, .l) :: r) a w := by
  unfold wpMix
  rw [ho]
  simp only
  rw [if_pos hw]
  exact h _ (fun _ _ h1 h2 => ⟨h1, h2 h1⟩)
/-- any other operation of the tail -/
theorem wpMix_t {i : Nat} {r : List (Nat × Mode4)} {o : Oper} {a : Act} {w : World} (ho : opAt ops i = some o) (hw : Region.wanted o (yielded ops a.tmps) = true)
    (h : ∀ K : Act → World → Prop, Hid (∀ a' w', wpMix P ops Q S r a' w' → K a' w') → o.wp P a w K Q) :
    wpMix P ops Q S ((i, .t) :: r) a w := by
  unfold wpMix
  rw [ho]
  simp only
  rw [if_pos hw]
  exact h _ (fun _ _ h => h)
end

end Go.Proofs.YtgbnadckhjfebaaRR
