/- Walk: which points are needed, by the program. -/
import Derived.Test.YtmlldjcbijoheaaNeedsQ
namespace Go.Proofs.Ytmlldjcbijoheaa
open Go.RowKit

set_option maxRecDepth 100000 in
set_option maxHeartbeats 2000000 in
theorem needs_any (f : Fig) (ps : List Int) (sa : Option Addr) (sc : Nat) (ga : Option Addr) (gc : Nat) (pa : Option Addr) (pc : Nat) (w : World) (h : FigR w sa sc ga gc f) (hp : IntsR w pa pc ps) (hl : f.steps.length ≤ 40) (hok : ∀ (k : Nat) (s : Step), f.steps[k]? = some s → ∀ a ∈ s.args, 0 ≤ a ∧ a < (k : Int)) :
    Calls Try.prog 13 #[f.val sa sc ga gc, .slice pa ps.length pc] w (RetI (needs f.steps ps) w) := by
  obtain ⟨steps, goals⟩ := f
  obtain ⟨hS, hG⟩ := h
  have hNd : needs steps ps = trues (marked steps ps) steps.length := rfl
  unfold Fig.val
  dsimp only at hS hG hl hok ⊢
  rw [hNd]
  have hml := marked_len steps ps
  obtain ⟨L, hLE⟩ : ∃ L, marked steps ps = L := ⟨_, rfl⟩
  rw [hLE] at hml ⊢
  have HML := Lib.hid hml
  have HLE := Lib.hid hLE
  clear hNd hml hLE
  have hlp := hp.len
  have hpin : ∀ x ∈ ps, InInt x := fun a ha => by
    obtain ⟨k, hk⟩ := List.mem_iff_getElem?.1 ha
    obtain ⟨b, off, _, hc, hw⟩ := hp.2.2 k a hk
    exact inInt_of hw
  have HS := Lib.hid hS
  have HP := Lib.hid hp
  have HPI := Lib.hid hpin
  have HOK := Lib.hid hok
  have hmk : ∀ w, (Instr.makeSlice 80 (.int .i64 (steps.length : Int)) (.int .i64 (steps.length : Int))).run Try.prog w = .ok (.slice (some ⟨w.heap.size, 0, none⟩) steps.length steps.length) (w.alloc (.cells (madeCells #[.bool false] steps.length) 4)) := fun w => run_make_bool .i64 _ (by omega) w
  clear hS hG hp hok hpin
  have hz := (Blk.new w 25 #[.slice sa steps.length sc, .slice ga goals.length gc]).alloc (.cells (madeCells #[.bool false] steps.length) 4)
  have hB := BlkB.new (w.alloc (.cells #[.slice sa steps.length sc, .slice ga goals.length gc] 25)) steps.length
  rw [show (w.alloc (.cells #[.slice sa steps.length sc, .slice ga goals.length gc] 25)).heap.size = w.heap.size + 1 by simp] at hB
  have hb0 : Below w.heap.size w ((w.alloc (.cells #[.slice sa steps.length sc, .slice ga goals.length gc] 25)).alloc (.cells (madeCells #[.bool false] steps.length) 4)) := ((Below.refl _ _).alloc (Nat.le_refl _) _).alloc (by simp) _
  go_enter Try.func13, Try.ntmps13
  go_wp2
  revert hz hB hb0
  generalize (w.alloc (.cells #[.slice sa steps.length sc, .slice ga goals.length gc] 25)).alloc (.cells (madeCells #[.bool false] steps.length) 4) = w0
  intro hz hB hb0
  clear hmk
  go_loopg [7, 20] ps.length (fun g _ q wr => ∃ (k : Nat) (l : List Bool), k + g = ps.length ∧ q = .int .i64 k ∧ Below w.heap.size w wr ∧ Blk wr w.heap.size 25 #[.slice sa steps.length sc, .slice ga goals.length gc] ∧ BlkB wr (w.heap.size + 1) l ∧ l = mark0 (List.replicate steps.length false) (ps.take k))
  case atStart => exact ⟨0, _, by omega, rfl, hb0, hz, hB, rfl⟩
  case round =>
    obtain ⟨k, l, hkg, rfl, hwr, hzr, hBr, hl⟩ := hrel
    have hll : l.length = steps.length := by rw [hl, mark0_len]; simp
    have HKG := Lib.hid hkg
    have HL := Lib.hid hl
    have HLL := Lib.hid hll
    have HBR := Lib.hid hBr
    have z0 := hzr.cell 0
    have hzl := hzr.lt
    have hBl := hBr.lt
    clear hz hB hb0 hkg hl hBr hll
    by_cases hlt : k < ps.length
    · obtain ⟨x, hx⟩ := get_of_lt hlt
      obtain ⟨b, off, rfl, hc⟩ := (HP.out.ext (Ext.below hwr)).2.2 k x hx
      have hc1 : wr.cell? ⟨b, off + k, none⟩ = some (.int .i64 x) := by simpa using hc.1
      obtain ⟨hx1, hx2⟩ := HPI.out x (List.mem_of_getElem? hx)
      have HX := Lib.hid hx
      clear hc hx
      by_cases hin : 0 ≤ x ∧ x < (steps.length : Int)
      · obtain ⟨h0, hxn⟩ := hin
        have hnext : l.set x.toNat true = mark0 (List.replicate steps.length false) (ps.take (k + 1)) := by
          rw [take_more HX.out, mark0_snoc, ← HL.out, if_pos ⟨h0, by rw [HLL.out]; exact hxn⟩]
        have HNX := Lib.hid hnext
        obtain ⟨y, hy⟩ := get_of_lt (xs := l) (k := x.toNat) (by rw [HLL.out]; omega)
        have cy := HBR.out.cell hy
        have fy := HBR.out.frozen x.toNat
        have hBx := HBR.out.set_ x.toNat true
        have hzx := hzr.far (p := ⟨w.heap.size + 1, x.toNat, none⟩) (by simp) (.bool true)
        have hwx := hwr.setCell (p := ⟨w.heap.size + 1, x.toNat, none⟩) (by simp) (.bool true)
        clear hnext hy
        go_wp2
        go_roundg (gk - 1)
        case rel => exact ⟨k + 1, _, by have := HKG.out; omega, by go_num, hwx, hzx, hBx, HNX.out⟩
        case measure => have := HKG.out; omega
      · have hnext : l = mark0 (List.replicate steps.length false) (ps.take (k + 1)) := by
          rw [take_more HX.out, mark0_snoc, ← HL.out, if_neg (by rw [HLL.out]; exact hin)]
        have HNX := Lib.hid hnext
        clear hnext
        by_cases h0 : 0 ≤ x
        · have hge : (steps.length : Int) ≤ x := by omega
          clear hin
          go_wp2
          go_roundg (gk - 1)
          case rel => exact ⟨k + 1, _, by have := HKG.out; omega, by go_num, hwr, hzr, HBR.out, HNX.out⟩
          case measure => have := HKG.out; omega
        · have h0' : x < 0 := by omega
          clear hin
          go_wp2
          go_roundg (gk - 1)
          case rel => exact ⟨k + 1, _, by have := HKG.out; omega, by go_num, hwr, hzr, HBR.out, HNX.out⟩
          case measure => have := HKG.out; omega
    · obtain ⟨wo, rfl⟩ : ∃ wo : World, wo = wr := ⟨_, rfl⟩
      have hl0 : l = mark0 (List.replicate steps.length false) ps := by
        have := HL.out
        rwa [take_all hlt] at this
      have HL0 := Lib.hid hl0
      clear hl0 HL HKG
      go_wp2
      go_loopg [8] steps.length (fun g q wr => ∃ l2 : List Bool, q = .int .i64 ((g : Int) - 1) ∧ g ≤ steps.length ∧ Below w.heap.size w wr ∧ Blk wr w.heap.size 25 #[.slice sa steps.length sc, .slice ga goals.length gc] ∧ BlkB wr (w.heap.size + 1) l2 ∧ l2.length = steps.length ∧ markDown steps g l2 = L)
      case atStart => exact ⟨l, rfl, Nat.le_refl _, hwr, hzr, HBR.out, HLL.out, by rw [HL0.out]; exact HLE.out⟩
      case round =>
        clear HBR HLL HL0 hwr hzr z0 hzl hBl l
        obtain ⟨l, rfl, hgs, hwr, hzr, hBr, hll, hm⟩ := hrel
        have HBR := Lib.hid hBr
        have HLL := Lib.hid hll
        have HM := Lib.hid hm
        have z0 := hzr.cell 0
        have hzl := hzr.lt
        have hBl := hBr.lt
        clear hBr hll hm
        by_cases hg0 : gk = 0
        · subst hg0
          have hm2 : l = L := HM.out
          have HM2 := Lib.hid hm2
          clear hm2
          have HB2 := HBR.out
          rw [HM2.out] at HB2
          replace HB2 := Lib.hid HB2
          clear HBR HLL HM HM2 z0 hzr
          go_wp2
          go_loopg [11, 12, 13, 73] steps.length (fun n s _ _ q wr => ∃ (k : Nat) (a : Option Addr) (c : Nat), k + n = steps.length ∧ q = .int .i64 k ∧ s = .slice a (trues L k).length c ∧ OwnI w.heap.size wr a c (trues L k) ∧ BlkB wr (w.heap.size + 1) L ∧ Below w.heap.size w wr)
          case atStart => exact ⟨0, none, 0, by omega, rfl, rfl, Own.nil, HB2.out, hwr⟩
          case round =>
            clear HB2 hwr
            obtain ⟨k, a, c, hkg, rfl, rfl, ho, hB, hw⟩ := hrel
            have HKG := Lib.hid hkg
            have HO := Lib.hid ho
            have HB := Lib.hid hB
            have hgl := hB.lt
            have hlt0 := trues_len L k
            clear hkg ho hB
            by_cases hlt : k < steps.length
            · obtain ⟨y, hy⟩ := get_of_lt (xs := L) (k := k) (by rw [HML.out]; exact hlt)
              have cy := HB.out.cell hy
              have HY := Lib.hid hy
              clear hy
              cases y
              · have HT := Lib.hid (trues_false HY.out)
                go_wp2
                go_roundg (gk - 1)
                case rel => exact ⟨k + 1, a, c, by have := HKG.out; omega, by go_num, by rw [HT.out], by rw [HT.out]; exact HO.out, HB.out, hw⟩
                case measure => have := HKG.out; omega
              · have HT := Lib.hid (trues_true HY.out)
                go_wp2_with (at_builtin; go_must (refine append_int rfl (.tmp 79) (.tmp 81) rfl a c rfl (HO.out.alloc _) (k : Int) wr.heap.size 1 rfl (by simp) (trues L k ++ [(k : Int)]) rfl (by simp; omega) (by have := hw.size; simp; omega) ?_); intro a2 c2 w2 ho2 hg2 hx2)
                go_roundg (gk - 1)
                case rel =>
                  have hb1 : Below w.heap.size w w2 := below_append' (hw.alloc hw.size _) (HO.out.alloc _) hg2
                  have hB2 : BlkB w2 (w.heap.size + 1) L := Blk.grown (Blk.alloc HB.out (.cells #[.int .i64 (k : Int)] 3)) hg2 (Own.ne_blk (HO.out.alloc (.cells #[.int .i64 (k : Int)] 3)) (Blk.alloc HB.out (.cells #[.int .i64 (k : Int)] 3)) int_ne_bool)
                  exact ⟨k + 1, a2, c2, by have := HKG.out; omega, by go_num, by rw [HT.out]; simp, by rw [HT.out]; exact ho2, hB2, hb1⟩
                case measure => have := HKG.out; omega
            · obtain rfl : k = steps.length := by have := HKG.out; omega
              go_wp2
              go_ret
              exact ⟨a, c, rfl, HO.out, hw⟩
        · have hge : (0 : Int) ≤ (gk : Int) - 1 := by omega
          have hdec : decide ((0 : Int) ≤ (gk : Int) - 1) = true := by simp; omega
          obtain ⟨s, hs⟩ := get_of_lt (xs := steps) (k := gk - 1) (by omega)
          obtain ⟨b, off, rfl, ⟨aa, ac, na, nc, da, dc⟩, hC, hPa, _, _⟩ := HS.out.2.2 (gk - 1) s hs
          replace hC := hC.ext (Ext.below hwr)
          obtain ⟨y, hy⟩ := get_of_lt (xs := l) (k := gk - 1) (by rw [HLL.out]; omega)
          have cy := HBR.out.cell hy
          have hms : markDown steps gk l = markDown steps (gk - 1) (markStep steps (gk - 1) l) := by
            conv => lhs; rw [show gk = gk - 1 + 1 by omega]
            rfl
          have hstep : markStep steps (gk - 1) l = if y = true then markArgs l s.args else l := by
            unfold markStep
            rw [getD_some hy, take_getD hs]
          rw [hstep] at hms
          have HMS := Lib.hid hms
          have HY := Lib.hid hy
          have HSS := Lib.hid hs
          clear hms hstep hy hs
          obtain ⟨c0, c1, c2, c3, c4, c5⟩ := hC
          obtain ⟨hPI, _, _⟩ := hPa
          have hpl := hPI.len
          have HPA := Lib.hid hPI
          obtain ⟨wo, rfl⟩ : ∃ wo : World, wo = wr := ⟨_, rfl⟩
          obtain ⟨g0, rfl⟩ : ∃ g0 : Nat, g0 = gk := ⟨_, rfl⟩
          have hpin : ∀ x ∈ s.args, InInt x := fun a ha => by
            obtain ⟨k, hk⟩ := List.mem_iff_getElem?.1 ha
            obtain ⟨b, off, _, hc, hw⟩ := HPA.out.2.2 k a hk
            exact inInt_of hw
          replace hpin := Lib.hid hpin
          clear hPI c0 c1 c3 c4 c5 cy
          cases y
          · have HN := HMS.out
            rw [if_neg (by simp), HM.out] at HN
            replace HN := Lib.hid HN
            go_wp2
            go_loopg [50] s.args.length (fun g q wr => ∃ k : Nat, k + g = s.args.length ∧ q = .int .i64 k ∧ Below w.heap.size w wr ∧ Blk wr w.heap.size 25 #[.slice (some ⟨b, off, none⟩) steps.length sc, .slice ga goals.length gc] ∧ BlkB wr (w.heap.size + 1) l)
            case atStart => exact ⟨0, by omega, rfl, hwr, hzr, HBR.out⟩
            case round =>
              clear hBl hzl z0
              obtain ⟨k3, hkg3, rfl, hwr3, hzr3, hBr3⟩ := hrel
              have HKG3 := Lib.hid hkg3
              have HB3 := Lib.hid hBr3
              have z0 := hzr3.cell 0
              have hzl := hzr3.lt
              have hBl := hBr3.lt
              have cy := hBr3.cell HY.out
              clear hkg3 hBr3
              by_cases hlt3 : k3 < s.args.length
              · obtain ⟨x, hx⟩ := get_of_lt hlt3
                obtain ⟨ba, oa, rfl, hcx⟩ := HPA.out.2.2 k3 x hx
                have hcx1 : wr.cell? ⟨ba, oa + k3, none⟩ = some (.int .i64 x) := by simpa using (hcx.ext (Ext.below hwr3)).1
                clear hx hcx
                go_wp2
                go_roundg (gk - 1)
                case rel => exact ⟨k3 + 1, by have := HKG3.out; omega, by go_num, hwr3, hzr3, HB3.out⟩
                case measure => have := HKG3.out; omega
              · go_wp2
                go_roundg (g0 - 1)
                case rel => exact ⟨l, by congr 1; omega, by omega, hwr3, hzr3, HB3.out, HLL.out, HN.out.symm⟩
                case measure => omega
          · have HN := HMS.out
            rw [if_pos rfl, HM.out] at HN
            replace HN := Lib.hid HN
            go_wp2
            go_loopg [50] s.args.length (fun g q wr => ∃ k : Nat, k + g = s.args.length ∧ q = .int .i64 k ∧ Below w.heap.size w wr ∧ Blk wr w.heap.size 25 #[.slice (some ⟨b, off, none⟩) steps.length sc, .slice ga goals.length gc] ∧ BlkB wr (w.heap.size + 1) (markArgs l (s.args.take k)))
            case atStart => exact ⟨0, by omega, rfl, hwr, hzr, HBR.out⟩
            case round =>
              clear hBl hzl z0
              obtain ⟨k3, hkg3, rfl, hwr3, hzr3, hBr3⟩ := hrel
              have HKG3 := Lib.hid hkg3
              have HB3 := Lib.hid hBr3
              have z0 := hzr3.cell 0
              have hzl := hzr3.lt
              have hBl := hBr3.lt
              have hyk : (markArgs l (s.args.take k3))[g0 - 1]? = some true := by
                rw [markArgs_far _ _ _ (fun a ha => HOK.out _ _ HSS.out a (List.mem_of_mem_take ha))]; exact HY.out
              have cyk := hBr3.cell hyk
              clear hkg3 hBr3 hyk
              by_cases hlt3 : k3 < s.args.length
              · obtain ⟨x, hx⟩ := get_of_lt hlt3
                obtain ⟨ba, oa, rfl, hcx⟩ := HPA.out.2.2 k3 x hx
                have hcx1 : wr.cell? ⟨ba, oa + k3, none⟩ = some (.int .i64 x) := by simpa using (hcx.ext (Ext.below hwr3)).1
                have hxr := HOK.out _ _ HSS.out x (List.mem_of_getElem? hx)
                obtain ⟨hx0, hx1⟩ := hxr
                have hxs : x < (steps.length : Int) := by omega
                have hxg : x < (g0 : Int) - 1 := by omega
                have hnx : markArgs l (s.args.take (k3 + 1)) = (markArgs l (s.args.take k3)).set x.toNat true := by rw [take_more hx, markArgs_snoc]
                obtain ⟨y, hy⟩ := get_of_lt (xs := markArgs l (s.args.take k3)) (k := x.toNat) (by rw [markArgs_len, HLL.out]; omega)
                have cy := HB3.out.cell hy
                have fy := HB3.out.frozen x.toNat
                have hBx := HB3.out.set_ x.toNat true
                rw [← hnx] at hBx
                have hzx := hzr3.far (p := ⟨w.heap.size + 1, x.toNat, none⟩) (by simp) (.bool true)
                have hwx := hwr3.setCell (p := ⟨w.heap.size + 1, x.toNat, none⟩) (by simp) (.bool true)
                clear hnx hy hx hcx
                go_wp2
                go_roundg (gk - 1)
                case rel => exact ⟨k3 + 1, by have := HKG3.out; omega, by go_num, hwx, hzx, hBx⟩
                case measure => have := HKG3.out; omega
              · have hall : markArgs l (s.args.take k3) = markArgs l s.args := by rw [take_all hlt3]
                have hfin := HB3.out
                rw [hall] at hfin
                clear hall
                go_wp2
                go_roundg (g0 - 1)
                case rel => exact ⟨markArgs l s.args, by congr 1; omega, by omega, hwr3, hzr3, hfin, by rw [markArgs_len, HLL.out], HN.out.symm⟩
                case measure => omega
end Go.Proofs.Ytmlldjcbijoheaa
