/- The row of PolytextPrints and its card: for every input the call returns true, and each argument reads behind the call as it read before. The row lists tables and errors of Go's library as its text lays them. Condition: none. -/
import Derived.Test.YtkjnkpkagcboeaaGreatDoorPp27
import Derived.Test.YtkjnkpkagcboeaaGreatDoorPp25
import Derived.Test.YtkjnkpkagcboeaaGreatDoorPp26
import Derived.Test.YtkjnkpkagcboeaaGreatDoorPp11
import Derived.Test.YtkjnkpkagcboeaaGreatDoorPp1
import Derived.LoopTactic
import Derived.Deep.LoopGhost
import Derived.Test.YtkjnkpkagcboeaaGreatDoorRows
import Derived.JoinedCond
import Derived.Test.YtkjnkpkagcboeaaGreatDoorCards
import Derived.Test.YtkjnkpkagcboeaaGreatDoorTie
import Derived.ChangeMaps5
import Derived.WalkKit
import Derived.ProofKit
import Derived.OpenShut
import Derived.Deep.DeepHandedRow
import Derived.Lib.LaidTab
import Derived.Lay
set_option linter.all false
set_option maxRecDepth 100000
set_option maxHeartbeats 4000000
namespace Go.Proofs.YtkjnkpkagcboeaaGreatDoor
open Go.RowKit
theorem errNm_ne {names : List ByteArray} (h : errNm names = 0) : ∀ s ∈ names, s.size ≠ 0 := fun s hs h0 => by
 unfold errNm at h
 split at h
 ·
  next ha =>
  rw [List.all_eq_true] at ha
  have h1 := ha s hs
  rw [size_zero.1 h0] at h1
  cases h1
 · cases h
theorem bigB_succ {l : List Trm} {n k : Nat} {t : Trm} (ht : l[k]? = some t) : bigB (l.take (k + 1)) n = (bigB (l.take k) n || decide (n < t.mono.length)) := by
 unfold bigB; rw [take_more ht, List.any_append]; simp
theorem printR_any (l : List Trm) (names : List ByteArray) (a na : Option Addr) (c nc : Nat) (w : World) (h : PolyR w a c l) (hq : ∀ t ∈ l, t.coef.num.length <= 1000 /\ t.coef.den.length <= 1000) (hl : l.length <= 1000)
  (hn : StrsR w na nc names) (hnl : names.length <= 1000) (hnz : ∀ s ∈ names, s.size <= 1048576) :
  Calls Tryz.prog 14 #[.slice a l.length c, .slice na names.length nc] w fun e w' => e = .returned (.tuple #[.string (printP l names).1, .int .i64 (printP l names).2]) /\ Below w.heap.size w w' := by
 have CR := polyR_any l a c w h (fun t ht => by have := hq t ht; omega)
 have CK := fun W (hW : Below w.heap.size w W) => checkR_any names na nc W (hn.ext (xbw hW)) hnz (by omega)
 have HP := Hd (fun W (hW : Below w.heap.size w W) => h.ext (xbw hW))
 have HN := Hd (fun W (hW : Below w.heap.size w W) => hn.ext (xbw hW))
 have HQ := Hd hq; have HNZ := Hd hnz
 obtain ⟨R, hR⟩ : ∃ r, printP l names = r := ⟨_, rfl⟩
 rw [hR]
 unfold printP at hR
 clear h hq hn hnz
 cases hpb : polyB l
 ·
  rw [hpb] at CR hR
  have hfin := Hd (show R = (⟨#[]⟩, 1) from hR.symm)
  replace CR := Hd CR
  clear hpb hR CK
  go_enter Tryz.func14, Tryz.ntmps14
  go_wp2_with fail
  refine CR.out.mono ?_
  rintro e w1 ⟨rfl, hb1⟩
  go_wp2
  go_ret2
  exact ⟨by rw [hfin.out]; rfl, hb1⟩
 rw [hpb] at CR hR
 have HPB := Hd (polyB_terms hpb)
 rw [if_pos rfl] at hR
 replace CR := Hd CR
 clear hpb
 obtain ⟨er, her⟩ : ∃ e, errNm names = e := ⟨_, rfl⟩
 simp only [her] at CK hR
 replace CK := Hd CK
 by_cases he : er = 0
 ·
  subst he
  rw [if_pos rfl] at hR
  have HNE := Hd (errNm_ne her)
  replace hR := Hd hR
  clear her
  go_enter Tryz.func14, Tryz.ntmps14
  go_wp2_with fail
  refine CR.out.mono ?_
  rintro e w1 ⟨rfl, hb1⟩
  go_wp2_with fail
  refine (CK.out w1 hb1).mono ?_
  rintro e w2 ⟨rfl, hb2⟩
  have hw2 := bth hb1 hb2
  clear CR CK hb1 hb2
  go_wp2
  go_loopg [7] l.length (fun g s7 wr => ∃ k : Nat, Hid (k + g = l.length) /\ s7 = .int .i64 k /\ Hid (bigB (l.take k) names.length = false) /\ Below w.heap.size w wr)
  case atStart => exact ⟨0, by show _ = _; omega, rfl, rfl, hw2⟩
  case round =>
   clear hw2
   obtain ⟨k, hk, rfl, hbk, hwr⟩ := hrel
   by_cases hlt : k < l.length
   ·
    obtain ⟨t, ht⟩ := get_of_lt hlt
    have hp0 := HP.out w brf
    obtain ⟨b, o, rfl, p, hC0, hR0⟩ := hp0.2.2 k t ht
    have d3 := held hC0.2.2.2 wr hwr
    have hsu := bigB_succ (n := names.length) ht
    rw [hbk.out, Bool.false_or] at hsu
    have hbig := fun (h : names.length < t.mono.length) => (show bigB l names.length = true by unfold bigB; rw [List.any_eq_true]; exact ⟨t, List.mem_of_getElem? ht, by simpa using h⟩)
    replace hsu := Hd hsu
    clear hp0 hC0 hR0 ht
    by_cases hbg : names.length < t.mono.length
    ·
     have hd : decide (names.length < t.mono.length) = true := decide_eq_true hbg
     have hfin := Hd (show R = (⟨#[]⟩, 6) by rw [<- hR.out, if_pos (hbig hbg)])
     clear hbig hbg hsu
     go_wp2
     go_ret2
     exact ⟨by rw [hfin.out]; rfl, hwr⟩
    ·
     have hd : decide (names.length < t.mono.length) = false := decide_eq_false hbg
     have hs2 := Hd (show bigB (l.take (k + 1)) names.length = false by rw [hsu.out, hd])
     clear hbig hbg hsu
     go_wp2
     go_roundg (gk - 1)
     case rel => exact ⟨k + 1, by have := hk.out; show _ = _; omega, by go_num, hs2.out, hwr⟩
     case measure => have := hk.out; omega
   ·
    have hbg : bigB l names.length = false := by have := hbk.out; rwa [take_all hlt] at this
    have hR2 := hR.out
    rw [if_neg (by rw [hbg]; simp)] at hR2
    replace hbg := Hd hbg
    clear hR hbk hk
    obtain ⟨w3, rfl⟩ : ∃ W, W = wr := ⟨_, rfl⟩
    by_cases hl0 : l.length = 0
    ·
     have hl1 : ((l.length : Int) == 0) = true := by rw [beq_iff_eq]; omega
     have hfin := Hd (show R = (⟨#[48]⟩, 0) by rw [<- hR2, if_pos hl0])
     clear hR2 hl0
     go_wp2
     go_ret2
     exact ⟨by rw [hfin.out]; rfl, hwr⟩
    have hl1 : ((l.length : Int) == 0) = false := by rw [beq_eq_false_iff_ne]; omega
    have hfin := Hd (show R = (polyTo l names l.length, 0) by rw [<- hR2, if_neg hl0])
    clear hR2 hl0
    go_wp2
    go_loopg [8, 9, 10] l.length (fun g s8 s9 _ w4 => ∃ k : Nat, Hid (k + g = l.length) /\ s9 = .int .i64 k /\ s8 = .string (polyTo l names k) /\ Below w.heap.size w w4)
    case atStart => exact ⟨0, by show _ = _; omega, rfl, rfl, hwr⟩
    case round =>
     clear hwr
     obtain ⟨k, hk, rfl, rfl, hwr⟩ := hrel
     by_cases hlt : k < l.length
     ·
      obtain ⟨t, ht⟩ := get_of_lt hlt
      have htl := List.mem_of_getElem? ht
      have hp0 := HP.out w brf
      obtain ⟨b, o, rfl, p, hC0, hR0⟩ := hp0.2.2 k t ht
      obtain ⟨c0, c1, c2, c3⟩ := hC0
      have HR := Hd (fun W (hW : Below w.heap.size w W) => PartsR.ext hR0 (xbw hW))
      have HC := Hd (fun W (hW : Below w.heap.size w W) => cofA_qk (HR.out W hW) (HPB.out t htl).1 (HQ.out t htl).1 (HQ.out t htl).2)
      have htm := monoB_mem (HPB.out t htl).2
      have htn := bigB_le hbg.out htl
      have HTS := Hd (termB_size HNZ.out (fun x hx => (htm.2 x hx).2) (textT_len (HPB.out t htl).1 (HQ.out t htl).1 (HQ.out t htl).2) htm.1)
      have hplen : (polyTo l names k).size <= 1000 * (1400000000 + 3) := by
       have e1 := polyTo_size (l := l) (names := names) (M := 1400000000) (fun u hu => termB_size HNZ.out (fun x hx => ((monoB_mem (HPB.out u hu).2).2 x hx).2) (textT_len (HPB.out u hu).1 (HQ.out u hu).1 (HQ.out u hu).2) (monoB_mem (HPB.out u hu).2).1) k
       exact Nat.le_trans e1 (Nat.mul_le_mul_right _ (by omega))
      have ht2 := Hd ht
      have hsl := sgnQ_lt2 t.coef.q
      have htm2 := Hd htm
      have d0 := held c0 wr hwr; have d1 := held c1 wr hwr; have d2 := held c2 wr hwr; have d3 := held c3 wr hwr
      clear hp0 hR0 ht htl htm
      go_wp2_with fail
      refine (signR_q (cofA t p) t.coef.q 1000 wr (HC.out wr hwr) (by omega)).mono ?_
      rintro e w4 ⟨rfl, hb4⟩
      have hw4 := bth hwr hb4
      have k0 := held c0 w4 hw4; have k1 := held c1 w4 hw4; have k2 := held c2 w4 hw4; have k3 := held c3 w4 hw4
      obtain ⟨sg, hsg2⟩ : ∃ r, sgnQ t.coef.q = r := ⟨_, rfl⟩
      rw [hsg2] at hsl ⊢
      obtain ⟨P, hP⟩ : ∃ P, polyTo l names k = P := ⟨_, rfl⟩
      rw [hP] at hplen ⊢
      have hn3 : ¬ 9223372036854775807 < P.size + 3 := by omega
      have hn4 : ¬ 9223372036854775807 < P.size + 1 := by omega
      have hn3' : P.size + 3 <= 1400000004000 := by omega
      have hn4' : P.size + 1 <= 1400000004000 := by omega
      clear d0 d1 d2 d3 c0 c1 c2 c3 hb4 hwr hsg2
      by_cases hq : t.coef.q < 0
      ·
       rw [decide_eq_true hq] at hsl
       have hsi : sg < 0 := of_decide_eq_true hsl
       by_cases h0 : k = 0
       ·
        have hk1 : decide (0 < k) = false := by rw [decide_eq_false]; omega
        have hsg := Hd (show signP k t.coef.q = ⟨#[45]⟩ by unfold signP; rw [if_pos h0, if_pos hq])
        clear hsl hq h0
        have CT := Hd (termR_any (cofA t p) t.coef.q t.mono names p.aa na p.ac nc 1000 w4 (HC.out w4 hw4) (by omega) (HR.out w4 hw4).1 (HN.out w4 hw4) htn htm2.out.1 htm2.out.2 HNZ.out HNE.out)
        go_wp2_with fail
        refine CT.out.mono ?_
        rintro e w6 ⟨rfl, hb6⟩
        have hw6 := bth hw4 hb6
        obtain ⟨tb, htb⟩ : ∃ x, termB t.coef.q t.mono names = x := ⟨_, rfl⟩
        have hts := HTS.out
        rw [htb] at hts ⊢
        have hps2 : polyTo l names k ++ signP k t.coef.q ++ tb = polyTo l names (k + 1) := by rw [<- htb]; exact (polyTo_succ ht2.out).symm
        rw [hsg.out, hP] at hps2
        have hn5 : ¬ 9223372036854775807 < P.size + 1 + tb.size := by omega
        have hn6 : P.size + 1 + tb.size <= 1401400004000 := by omega
        replace hps2 := Hd hps2
        clear CT hb6 htb
        go_wp2
        go_roundg (gk - 1)
        case rel => exact ⟨k + 1, by have := hk.out; show _ = _; omega, by go_num, by rw [hps2.out], hw6⟩
        case measure => have := hk.out; omega
       ·
        have hk1 : decide (0 < k) = true := by rw [decide_eq_true_eq]; omega
        have hsg := Hd (show signP k t.coef.q = ⟨#[32, 45, 32]⟩ by unfold signP; rw [if_neg h0, if_pos hq])
        clear hsl hq h0
        have CT := Hd (termR_any (cofA t p) t.coef.q t.mono names p.aa na p.ac nc 1000 w4 (HC.out w4 hw4) (by omega) (HR.out w4 hw4).1 (HN.out w4 hw4) htn htm2.out.1 htm2.out.2 HNZ.out HNE.out)
        go_wp2_with fail
        refine CT.out.mono ?_
        rintro e w6 ⟨rfl, hb6⟩
        have hw6 := bth hw4 hb6
        obtain ⟨tb, htb⟩ : ∃ x, termB t.coef.q t.mono names = x := ⟨_, rfl⟩
        have hts := HTS.out
        rw [htb] at hts ⊢
        have hps2 : polyTo l names k ++ signP k t.coef.q ++ tb = polyTo l names (k + 1) := by rw [<- htb]; exact (polyTo_succ ht2.out).symm
        rw [hsg.out, hP] at hps2
        have hn5 : ¬ 9223372036854775807 < P.size + 3 + tb.size := by omega
        have hn6 : P.size + 3 + tb.size <= 1401400004000 := by omega
        replace hps2 := Hd hps2
        clear CT hb6 htb
        go_wp2
        go_roundg (gk - 1)
        case rel => exact ⟨k + 1, by have := hk.out; show _ = _; omega, by go_num, by rw [hps2.out], hw6⟩
        case measure => have := hk.out; omega
      ·
       rw [decide_eq_false hq] at hsl
       have hsi : ¬ sg < 0 := of_decide_eq_false hsl
       by_cases h0 : k = 0
       ·
        have hk1 : decide (0 < k) = false := by rw [decide_eq_false]; omega
        have hsg := Hd (show signP k t.coef.q = ⟨#[]⟩ by unfold signP; rw [if_pos h0, if_neg hq])
        clear hsl hq h0
        have CT := Hd (termR_any (cofA t p) t.coef.q t.mono names p.aa na p.ac nc 1000 w4 (HC.out w4 hw4) (by omega) (HR.out w4 hw4).1 (HN.out w4 hw4) htn htm2.out.1 htm2.out.2 HNZ.out HNE.out)
        go_wp2_with fail
        refine CT.out.mono ?_
        rintro e w6 ⟨rfl, hb6⟩
        have hw6 := bth hw4 hb6
        obtain ⟨tb, htb⟩ : ∃ x, termB t.coef.q t.mono names = x := ⟨_, rfl⟩
        have hts := HTS.out
        rw [htb] at hts ⊢
        have hps2 : polyTo l names k ++ signP k t.coef.q ++ tb = polyTo l names (k + 1) := by rw [<- htb]; exact (polyTo_succ ht2.out).symm
        rw [hsg.out, hP] at hps2
        have hn5 : ¬ 9223372036854775807 < P.size + 0 + tb.size := by omega
        have hn6 : P.size + 0 + tb.size <= 1401400004000 := by omega
        replace hps2 := Hd hps2
        clear CT hb6 htb
        go_wp2
        go_roundg (gk - 1)
        case rel => exact ⟨k + 1, by have := hk.out; show _ = _; omega, by go_num, by rw [<- hps2.out]; congr 2; apply ba_ext; simp [ByteArray.data_append], hw6⟩
        case measure => have := hk.out; omega
       ·
        have hk1 : decide (0 < k) = true := by rw [decide_eq_true_eq]; omega
        have hsg := Hd (show signP k t.coef.q = ⟨#[32, 43, 32]⟩ by unfold signP; rw [if_neg h0, if_neg hq])
        clear hsl hq h0
        have CT := Hd (termR_any (cofA t p) t.coef.q t.mono names p.aa na p.ac nc 1000 w4 (HC.out w4 hw4) (by omega) (HR.out w4 hw4).1 (HN.out w4 hw4) htn htm2.out.1 htm2.out.2 HNZ.out HNE.out)
        go_wp2_with fail
        refine CT.out.mono ?_
        rintro e w6 ⟨rfl, hb6⟩
        have hw6 := bth hw4 hb6
        obtain ⟨tb, htb⟩ : ∃ x, termB t.coef.q t.mono names = x := ⟨_, rfl⟩
        have hts := HTS.out
        rw [htb] at hts ⊢
        have hps2 : polyTo l names k ++ signP k t.coef.q ++ tb = polyTo l names (k + 1) := by rw [<- htb]; exact (polyTo_succ ht2.out).symm
        rw [hsg.out, hP] at hps2
        have hn5 : ¬ 9223372036854775807 < P.size + 3 + tb.size := by omega
        have hn6 : P.size + 3 + tb.size <= 1401400004000 := by omega
        replace hps2 := Hd hps2
        clear CT hb6 htb
        go_wp2
        go_roundg (gk - 1)
        case rel => exact ⟨k + 1, by have := hk.out; show _ = _; omega, by go_num, by rw [hps2.out], hw6⟩
        case measure => have := hk.out; omega
     ·
      have hkl : k = l.length := by have := hk.out; omega
      have hfin2 : R = (polyTo l names k, 0) := by rw [hfin.out, hkl]
      clear hfin hkl
      have hfin := Hd hfin2
      clear hfin2
      go_wp2
      go_ret2
      exact ⟨by rw [hfin.out]; rfl, hwr⟩
 ·
  rw [if_neg he] at hR
  have hfin := Hd hR.symm
  have hne : (er != 0) = true := by simpa using he
  clear hR he her
  go_enter Tryz.func14, Tryz.ntmps14
  go_wp2_with fail
  refine CR.out.mono ?_
  rintro e w1 ⟨rfl, hb1⟩
  go_wp2_with fail
  refine (CK.out w1 hb1).mono ?_
  rintro e w2 ⟨rfl, hb2⟩
  go_wp2
  go_ret2
  exact ⟨by rw [hfin.out]; rfl, bth hb1 hb2⟩
end Go.Proofs.YtkjnkpkagcboeaaGreatDoor
namespace Go.Proofs.YtkjnkpkagcboeaaGreatDoor
open Go.ChangeShapes Go.WideShapes Go.ChangeAt Go.RowKit
theorem len2 {α : Type} {l : List α} (h : l.length = 2) : ∃ x0 x1, l = [x0, x1] := by
 match l, h with
 | [x0, x1], _ => exact ⟨x0, x1, rfl⟩
theorem len3 {α : Type} {l : List α} (h : l.length = 3) : ∃ x0 x1 x2, l = [x0, x1, x2] := by
 match l, h with
 | [x0, x1, x2], _ => exact ⟨x0, x1, x2, rfl⟩
theorem len4 {α : Type} {l : List α} (h : l.length = 4) : ∃ x0 x1 x2 x3, l = [x0, x1, x2, x3] := by
 match l, h with
 | [x0, x1, x2, x3], _ => exact ⟨x0, x1, x2, x3, rfl⟩
theorem list_choose {α β : Type} {p : Nat -> β -> α -> Prop} (l : List β) (h : ∀ i y, l[i]? = some y -> ∃ z, p i y z) :
  ∃ zs : List α, zs.length = l.length /\ ∀ (i : Nat) (z : α), zs[i]? = some z -> ∃ y, l[i]? = some y /\ p i y z := by
 induction l generalizing p with
 | nil => exact ⟨[], rfl, fun i z hz => by simp at hz⟩
 | cons x l ih =>
  obtain ⟨z0, h0⟩ := h 0 x rfl
  obtain ⟨zs, hl, hz⟩ := ih (p := fun i => p (i + 1)) (fun i y hy => h (i + 1) y (by simpa using hy))
  refine ⟨z0 :: zs, by simp [hl], fun i z hi => ?_⟩
  cases i with
  | zero => simp at hi; subst hi; exact ⟨x, rfl, h0⟩
  | succ i => simpa using hz i z (by simpa using hi)
theorem sum_le_bulk {H α : Type} (size : α -> Nat) : ∀ (ds : List (DataW H)) (zs : List α), zs.length = ds.length -> (∀ (i : Nat) (z : α) (d : DataW H), zs[i]? = some z -> ds[i]? = some d -> size z <= Rows.uptoBulk d) ->
  (zs.map size).sum <= Rows.uptoBulkAll ds
 | [], zs, hl, _ => by
  have : zs = [] := List.eq_nil_of_length_eq_zero (by simpa using hl)
  subst this; simp
 | d :: ds, [], hl, _ => by simp at hl
 | d :: ds, z :: zs, hl, h => by
  have h0 := h 0 z d rfl rfl
  have h1 := sum_le_bulk size ds zs (by simpa using hl) (fun i z d hz hd => h (i + 1) z d (by simpa using hz) (by simpa using hd))
  simp only [List.map_cons, List.sum_cons, Rows.uptoBulkAll]
  omega
section
variable {H : Type} {enc : TypeId × Value -> H} {P : Program} {W : World} {sp : Nat -> Bool} {held : Bool}
theorem open_sl {t e : TypeId} {sz fuel : Nat} {cs : List Value} {x : DataW H × List MemPlace} (ht : P.underlying t = some (.slice e)) (hc : P.cellsOf e = sz) (hs : 0 < sz)
  (h : DataW.trod enc P W 0 sp held fuel t cs = some x) {α : Type} (E : World -> Nat -> Nat -> α -> Prop) (size : α -> Nat)
  (conv : ∀ n cs' y b o, n < fuel -> DataW.trod enc P W 0 sp held n e cs' = some y -> cs'.length = sz -> (∀ j, j < sz -> W.cell? ⟨b, o + j, none⟩ = cs'[j]?) -> ∃ z, E W b o z /\ size z <= Rows.uptoBulk y.1) :
  ∃ (a : Option Addr) (cap : Nat) (zs : List α), cs = [.slice a zs.length cap] /\ SlR sz E W a cap zs /\ (zs.map size).sum + 1 <= Rows.uptoBulk x.1 := by
 rcases DataW.trod_slice ht h with ⟨rfl, rfl⟩ | ⟨a, len, cap, elems, rest, n, hn, rfl, rfl, _, hl, hm, hlen, hel, _, _⟩
 · exact ⟨none, 0, [], rfl, SlR.nil, by simp [Rows.uptoBulk]⟩
 ·
  rw [hc] at hel
  have key : ∀ i y, elems[i]? = some y -> ∃ z, (∃ b off, a = ⟨b, off, none⟩ /\ E W b (off + i * sz) z) /\ size z <= Rows.uptoBulk y.1 := by
   intro i y hy
   have hi : i < len := by rw [<- hlen]; exact lt_of_get hy
   have h1 := hel i hi
   rw [hy] at h1
   obtain ⟨cs', hcs, hty⟩ := Option.bind_eq_some_iff.1 h1
   obtain ⟨_, hl', hcell⟩ := World.cells?_some hcs
   have hspot : ∃ b off, a = ⟨b, off, none⟩ := by
    have h0 := hcell 0 hs
    rw [List.getElem?_eq_getElem (by omega)] at h0
    have := World.cell?_spot h0
    obtain ⟨b, off, spot⟩ := a
    by_cases hi0 : i * sz = 0
    ·
     simp [Addr.add, hi0] at this
     subst this
     exact ⟨b, off, rfl⟩
    ·
     have h2 := hel 0 (by omega)
     obtain ⟨y0, hy0⟩ := get_of_lt (xs := elems) (k := 0) (by omega)
     rw [hy0] at h2
     obtain ⟨cs0, hcs0, _⟩ := Option.bind_eq_some_iff.1 h2
     obtain ⟨_, hl0, hcell0⟩ := World.cells?_some hcs0
     have h3 := hcell0 0 hs
     rw [List.getElem?_eq_getElem (by omega)] at h3
     have := World.cell?_spot h3
     simp [Addr.add] at this
     subst this
     exact ⟨b, off, rfl⟩
   obtain ⟨b, off, rfl⟩ := hspot
   obtain ⟨z, hz, hsz⟩ := conv n cs' y b (off + i * sz) (by omega) hty hl' (fun j hj => by
    rw [<- hcell j hj, add_plain, add_plain])
   exact ⟨z, ⟨b, off, rfl, hz⟩, hsz⟩
  obtain ⟨zs, hzl, hz⟩ := list_choose (p := fun i y z => (∃ b off, a = ⟨b, off, none⟩ /\ E W b (off + i * sz) z) /\ size z <= Rows.uptoBulk y.1) elems key
  refine ⟨some a, cap, zs, by rw [hzl, hlen], ⟨by omega, hm, fun k z hk => ?_⟩, ?_⟩
  ·
   obtain ⟨y, hy, ⟨b, off, rfl, he⟩, _⟩ := hz k z hk
   exact ⟨b, off, rfl, he⟩
  ·
   have h1 := sum_le_bulk size (elems.map (·.1)) zs (by simpa using hzl) (fun i z d hzi hd => by
    obtain ⟨y, hy, _, hs⟩ := hz i z hzi
    rw [List.getElem?_map, hy] at hd
    simp at hd; subst hd; exact hs)
   simp only [Rows.uptoBulk]
   omega
end
theorem conv_int {H : Type} {enc : TypeId × Value -> H} {P : Program} {W : World} {sp : Nat -> Bool} {held : Bool} {e : TypeId} {k : IntKind} (he : P.underlying e = some (.int k)) (n : Nat) (cs' : List Value) (y : DataW H × List MemPlace) (b o : Nat)
  (h : DataW.trod enc P W 0 sp held n e cs' = some y) (hc : ∀ j, j < 1 -> W.cell? ⟨b, o + j, none⟩ = cs'[j]?) : ∃ z, IntE k W b o z /\ 1 <= Rows.uptoBulk y.1 := by
 obtain ⟨z, rfl, rfl, hw⟩ := DataW.trod_int he h
 exact ⟨z, ⟨by have := hc 0 (by omega); simpa using this, hw⟩, by simp [Rows.uptoBulk]⟩
theorem conv_str {H : Type} {enc : TypeId × Value -> H} {P : Program} {W : World} {sp : Nat -> Bool} {held : Bool} {e : TypeId} (he : P.underlying e = some .string) (n : Nat) (cs' : List Value) (y : DataW H × List MemPlace) (b o : Nat)
  (h : DataW.trod enc P W 0 sp held n e cs' = some y) (hc : ∀ j, j < 1 -> W.cell? ⟨b, o + j, none⟩ = cs'[j]?) : ∃ z : ByteArray, StrE W b o z /\ z.size + 1 <= Rows.uptoBulk y.1 := by
 obtain ⟨z, rfl, rfl, hw⟩ := DataW.trod_string he h
 exact ⟨z, by have := hc 0 (by omega); simpa [StrE] using this, by simp [Rows.uptoBulk]⟩
end Go.Proofs.YtkjnkpkagcboeaaGreatDoor
namespace Go.Proofs.YtkjnkpkagcboeaaGreatDoor
open Go.ChangeShapes Go.WideShapes Go.ChangeAt Go.RowKit
theorem cellsRat : Tryz.prog.cellsOf 54 = 3 := by kernel_rfl
theorem cellsInt : Tryz.prog.cellsOf 52 = 2 := by kernel_rfl
theorem cellsNat : Tryz.prog.cellsOf 50 = 1 := by kernel_rfl
theorem cellsB : Tryz.prog.cellsOf 4 = 1 := by kernel_rfl
theorem cellsU16 : Tryz.prog.cellsOf 47 = 1 := by kernel_rfl
theorem list_sum_ones {α : Type} (l : List α) : (l.map fun _ => 1).sum = l.length := by induction l with
 | nil => rfl
 | cons x l ih => simp only [List.map_cons, List.sum_cons, ih, List.length_cons]; omega
section
variable {H : Type} {enc : TypeId × Value -> H} {W : World} {sp : Nat -> Bool} {held : Bool} {n : Nat}
theorem open_nat {cs : List Value} {y : DataW H × List MemPlace} (h : DataW.trod enc Tryz.prog W 0 sp held n 50 cs = some y) :
  ∃ a c zs, cs = [.slice a (List.length zs) c] /\ NatR W a c zs /\ zs.length + 1 <= Rows.uptoBulk y.1 := by
 obtain ⟨a, c, zs, h1, h2, h3⟩ := open_sl Tryz.underlying50 cellsU16 (by omega) h (IntE .u16) (fun _ => 1) (fun m cs' y b o _ ht _ hc => conv_int Tryz.underlying47 m cs' y b o ht hc)
 rw [list_sum_ones] at h3
 exact ⟨a, c, zs, h1, h2, h3⟩
theorem open_intst {cs : List Value} {y : DataW H × List MemPlace} (h : DataW.trod enc Tryz.prog W 0 sp held n 52 cs = some y) :
  ∃ b a c zs, cs = [.bool b, .slice a (List.length zs) c] /\ NatR W a c zs /\ zs.length + 2 <= Rows.uptoBulk y.1 := by
 obtain ⟨xs, m, rfl, rfl, hcl, hxl, hf⟩ := DataW.trod_struct Tryz.underlying52 h
 rw [cellsInt] at hcl
 obtain ⟨c0, c1, rfl⟩ := len2 hcl
 obtain ⟨y0, y1, rfl⟩ := len2 (show xs.length = 2 from hxl)
 ·
  have h0 := hf 0 _ rfl
  have h1 := hf 1 _ rfl
  simp [cellsB, cellsNat] at h0 h1
  obtain ⟨b, e0, rfl⟩ := DataW.trod_bool Tryz.underlying4 h0
  obtain ⟨a, c, zs, e1, h2, h3⟩ := open_nat h1
  simp at e0 e1; subst e0; subst e1
  refine ⟨b, a, c, zs, rfl, h2, ?_⟩
  simp [Rows.uptoBulk, Rows.uptoBulkAll] at h3 ⊢
  omega
theorem open_rat {cs : List Value} {y : DataW H × List MemPlace} (h : DataW.trod enc Tryz.prog W 0 sp held n 54 cs = some y) :
  ∃ b na nc num da dc den, cs = [.bool b, .slice na (List.length num) nc, .slice da (List.length den) dc] /\ NatR W na nc num /\ NatR W da dc den /\ num.length + den.length + 2 <= Rows.uptoBulk y.1 := by
 obtain ⟨xs, m, rfl, rfl, hcl, hxl, hf⟩ := DataW.trod_struct Tryz.underlying54 h
 rw [cellsRat] at hcl
 obtain ⟨c0, c1, c2, rfl⟩ := len3 hcl
 obtain ⟨y0, y1, rfl⟩ := len2 (show xs.length = 2 from hxl)
 ·
  have h0 := hf 0 _ rfl
  have h1 := hf 1 _ rfl
  simp [cellsInt, cellsNat] at h0 h1
  obtain ⟨b, na, nc, num, e0, h2, h3⟩ := open_intst h0
  obtain ⟨da, dc, den, e1, h4, h5⟩ := open_nat h1
  simp at e0 e1
  obtain ⟨rfl, rfl⟩ := e0
  subst e1
  refine ⟨b, na, nc, num, da, dc, den, rfl, h2, h4, ?_⟩
  simp [Rows.uptoBulk, Rows.uptoBulkAll] at h3 h5 ⊢
  omega
end
end Go.Proofs.YtkjnkpkagcboeaaGreatDoor
namespace Go.Proofs.YtkjnkpkagcboeaaGreatDoor
open Go.ChangeShapes Go.WideShapes Go.ChangeAt Go.RowKit
theorem cellsI : Tryz.prog.cellsOf 3 = 1 := by kernel_rfl
theorem cellsS : Tryz.prog.cellsOf 9 = 1 := by kernel_rfl
section
variable {H : Type} {enc : TypeId × Value -> H} {W : World} {sp : Nat -> Bool} {held : Bool} {n : Nat}
theorem open_intsl {cs : List Value} {y : DataW H × List MemPlace} (h : DataW.trod enc Tryz.prog W 0 sp held n 38 cs = some y) :
  ∃ a c zs, cs = [.slice a (List.length zs) c] /\ IntsR W a c zs /\ zs.length + 1 <= Rows.uptoBulk y.1 := by
 obtain ⟨a, c, zs, h1, h2, h3⟩ := open_sl Tryz.underlying38 cellsI (by omega) h (IntE .i64) (fun _ => 1) (fun m cs' y b o _ ht _ hc => conv_int Tryz.underlying3 m cs' y b o ht hc)
 rw [list_sum_ones] at h3
 exact ⟨a, c, zs, h1, h2, h3⟩
theorem open_strsl {cs : List Value} {y : DataW H × List MemPlace} (h : DataW.trod enc Tryz.prog W 0 sp held n 24 cs = some y) :
  ∃ a c zs, cs = [.slice a (List.length zs) c] /\ StrsR W a c zs /\ (zs.map fun s => s.size + 1).sum + 1 <= Rows.uptoBulk y.1 :=
 open_sl Tryz.underlying24 cellsS (by omega) h StrE (fun s => s.size + 1) (fun m cs' y b o _ ht _ hc => conv_str Tryz.underlying9 m cs' y b o ht hc)
end
end Go.Proofs.YtkjnkpkagcboeaaGreatDoor
namespace Go.Proofs.YtkjnkpkagcboeaaGreatDoor
open Go.ChangeShapes Go.WideShapes Go.ChangeAt Go.RowKit
theorem cellsTerm : Tryz.prog.cellsOf 57 = 4 := by kernel_rfl
theorem cellsMono : Tryz.prog.cellsOf 55 = 1 := by kernel_rfl
section
variable {H : Type} {enc : TypeId × Value -> H} {W : World} {sp : Nat -> Bool} {held : Bool}
theorem open_mono {n : Nat} {cs : List Value} {y : DataW H × List MemPlace} (h : DataW.trod enc Tryz.prog W 0 sp held n 55 cs = some y) :
  ∃ a c zs, cs = [.slice a (List.length zs) c] /\ IntsR W a c zs := by
 obtain ⟨a, c, zs, h1, h2, _⟩ := open_sl Tryz.underlying55 cellsI (by omega) h (IntE .i64) (fun _ => 1) (fun m cs' y b o _ ht _ hc => conv_int Tryz.underlying3 m cs' y b o ht hc)
 exact ⟨a, c, zs, h1, h2⟩
theorem open_term {n : Nat} {cs : List Value} {y : DataW H × List MemPlace} (h : DataW.trod enc Tryz.prog W 0 sp held n 57 cs = some y) :
  ∃ (t : Trm) (p : RA), cs = [.bool t.coef.neg, .slice p.na t.coef.num.length p.nc, .slice p.da t.coef.den.length p.dc, .slice p.aa t.mono.length p.ac] /\ PartsR W p t.mono t.coef := by
 obtain ⟨xs, m, rfl, rfl, hcl, hxl, hf⟩ := DataW.trod_struct Tryz.underlying57 h
 rw [cellsTerm] at hcl
 obtain ⟨c0, c1, c2, c3, rfl⟩ := len4 hcl
 obtain ⟨y0, y1, rfl⟩ := len2 (show xs.length = 2 from hxl)
 ·
  have h0 := hf 0 _ rfl
  have h1 := hf 1 _ rfl
  simp [cellsRat, cellsMono] at h0 h1
  obtain ⟨neg, na, nc, num, da, dc, den, e0, r3, r4, _⟩ := open_rat h0
  obtain ⟨aa, ac, mono, e1, r2⟩ := open_mono h1
  simp at e0 e1
  obtain ⟨rfl, rfl, rfl⟩ := e0
  subst e1
  exact ⟨⟨⟨neg, num, den⟩, mono⟩, ⟨aa, ac, na, nc, da, dc⟩, rfl, r2, r3, r4⟩
theorem open_poly {n : Nat} {cs : List Value} {y : DataW H × List MemPlace} (h : DataW.trod enc Tryz.prog W 0 sp held n 23 cs = some y) :
  ∃ a c zs, cs = [.slice a (List.length zs) c] /\ PolyR W a c zs := by
 obtain ⟨a, c, zs, h1, h2, _⟩ := open_sl Tryz.underlying23 cellsTerm (by omega) h TrmE (fun _ => 0) (fun m cs' y b o _ ht _ hc => by
   obtain ⟨t, p, rfl, hP⟩ := open_term ht
   refine ⟨t, ⟨p, ⟨?_, ?_, ?_, ?_⟩, hP⟩, by omega⟩
   · have := hc 0 (by omega); simpa using this
   · have := hc 1 (by omega); simpa using this
   · have := hc 2 (by omega); simpa using this
   · have := hc 3 (by omega); simpa using this)
 exact ⟨a, c, zs, h1, h2⟩
end
end Go.Proofs.YtkjnkpkagcboeaaGreatDoor
namespace Go.Proofs.YtkjnkpkagcboeaaGreatDoor
open Go.ChangeShapes Go.WideShapes Go.ChangeAt Go.RowKit
section
variable {H : Type} {enc : TypeId × Value -> H} {W : World} {sp : Nat -> Bool} {held : Bool}
theorem open_strsa {r : Reach} {b0 : Nat} {v : Value} {d : DataW H} {p : List MemPlace} (hv : Value.okWide Tryz.prog W r b0 24 v) (h : DataW.Trod enc Tryz.prog W 0 sp held 24 v d p) :
  ∃ (l : List ByteArray) (a : Option Addr) (c : Nat), v = .slice a l.length c /\ StrsR W a c l /\ (l.map fun s => s.size + 1).sum + 1 <= Rows.uptoBulk d := by
 obtain ⟨n, hn⟩ := h
 obtain ⟨a, c, zs, h1, h2, h3⟩ := open_strsl hn
 obtain ⟨a', l', c', rfl⟩ := okWide_slice Tryz.underlying24 hv
 refine ⟨zs, a, c, ?_, h2, h3⟩
 simpa [Value.cells] using h1
end
end Go.Proofs.YtkjnkpkagcboeaaGreatDoor
namespace Go.Proofs.YtkjnkpkagcboeaaGreatDoor
open Go.RowKit Go.WideShapes Go.ChangeAt
section
variable {H : Type} {enc : TypeId × Value -> H} {W : World} {sp : Nat -> Bool} {held : Bool}
theorem open_polya {r : Reach} {b0 : Nat} {v : Value} {d : DataW H} {p : List MemPlace} (hv : Value.okWide Tryz.prog W r b0 23 v) (h : DataW.Trod enc Tryz.prog W 0 sp held 23 v d p) :
  ∃ (l : List Trm) (a : Option Addr) (c : Nat), v = .slice a l.length c /\ PolyR W a c l := by
 obtain ⟨n, hn⟩ := h
 obtain ⟨a, c, zs, h1, h2⟩ := open_poly hn
 obtain ⟨a', l', c', rfl⟩ := okWide_slice Tryz.underlying23 hv
 refine ⟨zs, a, c, ?_, h2⟩
 simpa [Value.cells] using h1
end
abbrev InP (w : World) (v : Value) : Prop := ∃ (l : List Trm) (a : Option Addr) (c : Nat), v = .slice a l.length c /\ PolyR w a c l
abbrev InS (w : World) (u : Value) (m : Nat) : Prop := ∃ (l : List ByteArray) (a : Option Addr) (c : Nat), u = .slice a l.length c /\ StrsR w a c l /\ (l.map fun s => s.size + 1).sum + 1 <= m
end Go.Proofs.YtkjnkpkagcboeaaGreatDoor
namespace Go.Proofs.YtkjnkpkagcboeaaGreatDoor
open Go.RowKit
theorem prints_any (l : List Trm) (names : List ByteArray) (a b : Option Addr) (ca cb : Nat) (w : World) (h : PolyR w a ca l) (h' : StrsR w b cb names) (he : ErrW w) (ht : TabW w) :
  Calls Tryz.prog 3 #[.slice a l.length ca, .slice b names.length cb] w fun e w' => e = .returned (.bool true) /\ Below w.heap.size w w' := by
 have HA := Hd (fun W (hW : Below w.heap.size w W) => alive_any W (he.below hW) (ht.below hW))
 have CS := Hd (fun W (hW : Below w.heap.size w W) => small_any l names a b ca cb W (h.ext (xbw hW)) (h'.ext (xbw hW)))
 have HP := Hd (fun W (hW : Below w.heap.size w W) => h.ext (xbw hW))
 have HN := Hd (fun W (hW : Below w.heap.size w W) => h'.ext (xbw hW))
 have HT := Hd (fun W (hW : Below w.heap.size w W) => ht.below hW)
 have HE := Hd (fun W (hW : Below w.heap.size w W) => he.below hW)
 have ll := h.len; have ln := h'.len
 clear h h' he ht
 go_enter Tryz.func3, Tryz.ntmps3
 go_wp2_with fail
 refine (CS.out w brf).mono ?_
 rintro e w' ⟨q, rfl, hq, rfl⟩
 cases q
 ·
  go_wp2_with fail
  refine (HA.out w brf).mono ?_
  rintro e w1 ⟨rfl, hb⟩
  go_wp2
  go_ret
  exact ⟨rfl, hb⟩
 have hsm := Hd (hq rfl)
 clear hq CS
 have C1 := Hd (fun W (hW : Below w.heap.size w W) => printS_any l names a b ca cb W (HP.out W hW) (sml_few hsm.out) (by have := hsm.out.1; omega) (HN.out W hW) (by have := hsm.out.2.1; omega) (sml_names hsm.out) (HT.out W hW))
 have C2 := Hd (fun W (hW : Below w.heap.size w W) => printR_any l names a b ca cb W (HP.out W hW) (sml_few hsm.out) (by have := hsm.out.1; omega) (HN.out W hW) (by have := hsm.out.2.1; omega) (sml_names hsm.out))
 obtain ⟨R, hR⟩ : ∃ R, printP l names = R := ⟨_, rfl⟩
 obtain ⟨s, er⟩ := R
 have C1' := Hd (by have := C1.out; simp only [hR] at this; exact this)
 have C2' := Hd (by have := C2.out; simp only [hR] at this; exact this)
 replace hR := Hd hR
 clear C1 C2 HP HN
 go_wp2_with fail
 refine (C1'.out w brf).mono ?_
 rintro e w1 ⟨rfl, hb1⟩
 go_wp2_with fail
 refine (C2'.out w1 hb1).mono ?_
 rintro e w2 ⟨rfl, hb2⟩
 have hw2 := bth hb1 hb2
 clear C1' C2' hb1 hb2
 go_wp2_with fail
 refine (HA.out w2 hw2).mono ?_
 rintro e w9 ⟨rfl, hb9⟩
 go_wp2
 go_ret
 exact ⟨rfl, bth hw2 hb9⟩
theorem polytextPrints_law {v u : Value} {w : World} {m : Nat} (h : InP w v) (h' : InS w u m) (ht : TabW w) (he : ErrW w) :
  Calls Tryz.prog 3 #[v, u] w fun r w' => r = .returned (.bool true) /\ Below w.heap.size w w' := by
 obtain ⟨l, a, c, rfl, h1⟩ := h
 obtain ⟨n, b, d, rfl, h2, _⟩ := h'
 exact prints_any l n a b c d w h1 h2 he ht
end Go.Proofs.YtkjnkpkagcboeaaGreatDoor
namespace Go.Proofs.YtkjnkpkagcboeaaGreatDoor
open Go.ChangeShapes Go.WideShapes Go.ChangeAt Go.RowKit
theorem trodAll_below {H : Type} {enc : TypeId × Value -> H} {P : Program} (hl : laidOutB P = true) {W W' : World} (hB : Below W.heap.size W W') :
  ∀ (ts : List TypeId) (vs : List Value) (ds : List (DataW H)) (p : List MemPlace), (ts.all fun t => P.readableRec t && decide (t < P.types.size)) = true ->
   (∀ x ∈ p, x.block < W.heap.size) -> DataW.TrodAll enc P W 0 (fun _ => true) true ts vs ds p -> DataW.TrodAll enc P W' 0 (fun b => decide (b < W.heap.size)) true ts vs ds p := by
 intro ts
 induction ts with
 | nil => intro vs ds p _ _ h; cases vs <;> cases ds <;> first | exact h | exact h.elim
 | cons t ts ih =>
  intro vs ds p ha hp h
  cases vs with
  | nil => exact h.elim
  | cons v vs =>
   cases ds with
   | nil => exact h.elim
   | cons d ds =>
    obtain ⟨p1, q1, h1, h2, rfl⟩ := h
    simp only [List.all_cons, Bool.and_eq_true, decide_eq_true_eq] at ha
    exact ⟨p1, q1, Below.trod hl ha.1.1 ha.1.2 h1 hB (fun x hx => hp x (by simp [hx])), ih vs ds q1 ha.2 (fun x hx => hp x (by simp [hx])) h2, rfl⟩
theorem law_post {H : Type} {enc : TypeId × Value -> H} {P : Program} {f : Func} {s : ChangeSpec} {W W' : World} {args : Array Value} {ds gs : List (DataW H)} {before : List MemPlace} {tb : TypeId}
  (hl : laidOutB P = true) (hts : (f.params.toList.all fun t => P.readableRec t && decide (t < P.types.size)) = true) (hr : f.resultTypes = #[tb]) (hb : P.underlying tb = some .bool) (hv : s.vars = [])
  (hW : DataW.Whole enc P f.params.toList s.vars false W args.toList ds gs before) (hfn : s.fn H (ds ++ gs) = { results := [.lit (.bool true)], args := ds, vars := [] })
  (hB : Below W.heap.size W W') : s.post enc P f false true false false W args (.bool true) W' := by
 have hlt := hW.lt
 have hW0 := hW
 obtain ⟨p, q, hA, hV, rfl, _, _⟩ := hW
 rw [hv] at hV
 obtain ⟨rfl, rfl⟩ := trodVars_none hV
 refine ⟨ds, _, _, [], p, [], hW0, ?_, ?_, ?_, hB.frame _, fun h => by cases h⟩
 ·
  rw [hfn, hr]
  exact trodAll_mk1 (shut_bool hb true)
 ·
  rw [hfn]
  exact trodAll_below hl hB _ _ _ _ hts (fun x hx => by simpa using hlt x (by simp [hx])) hA
 ·
  rw [hfn, hv]
  rfl
end Go.Proofs.YtkjnkpkagcboeaaGreatDoor
namespace Go.Proofs.YtkjnkpkagcboeaaGreatDoor.polytextPrints
open Go.ChangeShapes Go.WideShapes Go.ChangeAt Go.RowKit
set_option linter.unusedVariables false
theorem own : ownKnob Tryz.prog.godebug = none := by kernel_rfl
theorem laidOut : laidOutB Tryz.prog = true := by kernel_rfl
theorem readable : (Tryz.f3.params.toList.all fun t => Tryz.prog.readableRec t && decide (t < Tryz.prog.types.size)) = true := by kernel_rfl
theorem table {W : World} (h : laidMetH Tryz.prog Rows.polytextPrintsRow.laid W) : TabW W := by
 obtain ⟨ps, ⟨_, _, _, _, _, _, _, _, _, _, h1, _⟩, _⟩ := (show laidMet Tryz.prog Rows.polytextPrintsRow.laid W from h)
 obtain ⟨_, _, _, _, _, _, _, _, _, _, h2, _⟩ := h1
 obtain ⟨g', t', cs, fuel, p, q, hg', ht', hvar, hd, _, _⟩ := h2
 obtain rfl := Option.some.inj ((show Tryz.prog.globalNamed "internal/strconv.uint64pow10" = some 1 by kernel_rfl).symm.trans hg')
 obtain rfl := Option.some.inj ((show (Tryz.prog.globals[1]?).map (·.type) = some 213 by kernel_rfl).symm.trans ht')
 unfold TabW Lib.TabIs
 rw [hvar, <- Lib.cells_of_tab (zs := Lib.pow10Tab) (k := .u64) Tryz.underlying213 Tryz.underlying112 (by kernel_rfl) (by kernel_rfl) hd]
theorem errw {W : World} (h : laidMetH Tryz.prog Rows.polytextPrintsRow.laid W) : ErrW W := by
 obtain ⟨ps, ⟨_, _, _, _, _, _, _, _, _, _, h1, _⟩, _⟩ := (show laidMet Tryz.prog Rows.polytextPrintsRow.laid W from h)
 obtain ⟨_, _, _, _, _, _, _, _, _, _, h2, _⟩ := h1
 obtain ⟨_, _, _, _, _, _, _, _, _, _, h3, _⟩ := h2
 obtain ⟨g', t', cs, fuel, p, q, hg', ht', hvar, hd, _, _⟩ := h3
 obtain rfl := Option.some.inj ((show Tryz.prog.globalNamed "strconv.ErrRange" = some 5 by kernel_rfl).symm.trans hg')
 obtain rfl := Option.some.inj ((show (Tryz.prog.globals[5]?).map (·.type) = some 65 by kernel_rfl).symm.trans ht')
 obtain ⟨_, u, v, hcs, _, _⟩ := iface_of_trod (name := "*errors.errorString") Tryz.underlying65 hd
 have h0 := World.var?_cell Tryz.lays172.m16 hvar 0
 have h1 : cs[0]? = some (.iface u v) := by rw [<- Array.getElem?_toList, hcs]; rfl
 exact ⟨u, v, h0.trans h1⟩
theorem contract (H : Type) (enc : TypeId × Value -> H) (W : World) (base : Nat) (args : Array Value) (ds gs : List (DataW H)) (before : List MemPlace)
  (hval : ∀ (j : Nat) t v, Tryz.f3.params[j]? = some t -> args[j]? = some v -> Value.okWide Tryz.prog W .any base t v)
  (hW : DataW.Whole enc Tryz.prog Tryz.f3.params.toList Rows.polytextPrintsSpec.vars false W args.toList ds gs before) (hL : laidMetH Tryz.prog Rows.polytextPrintsRow.laid W) :
  Calls Tryz.prog 3 args W fun e W' => ∃ v, e = .returned v /\ Rows.polytextPrintsSpec.post enc Tryz.prog Tryz.f3 false true false false W args v W' := by
 have hW' := hW
 obtain ⟨p, q, hA0, hV, rfl, hfz, hnd⟩ := hW
 have hA : DataW.TrodAll enc Tryz.prog W 0 (fun _ => true) true Tryz.f3.params.toList args.toList ds p := hA0
 rw [Tryz.params3] at hA hval
 obtain ⟨v0, vs0, d0, ds0, p0, q0, hargs, rfl, rfl, h0, r0⟩ := trodAll_cons hA
 obtain ⟨v1, vs1, d1, ds1, p1, q1, rfl, rfl, rfl, h1, r1⟩ := trodAll_cons r0
 obtain ⟨rfl, rfl, rfl⟩ := trodAll_nil r1
 obtain rfl : args = #[v0, v1] := by cases args; simp_all
 obtain ⟨rfl, rfl⟩ := trodVars_none hV
 clear hA0 hA r0 r1
 have hx0 := open_polya (hval 0 23 v0 rfl rfl) h0
 have hx1 := open_strsa (hval 1 24 v1 rfl rfl) h1
 refine (polytextPrints_law hx0 hx1 (table hL) (errw hL)).mono fun e W' ⟨he, hg⟩ => ?_
 subst he
 exact ⟨_, rfl, law_post laidOut readable (by kernel_rfl) Tryz.underlying4 rfl hW' (by rfl) hg⟩
noncomputable def laidWorld (os : Os) : World := World.laidAll Tryz.prog os Rows.polytextPrintsRow.laid
def wargs : Array Value := #[.slice none 0 0, .slice none 0 0]
theorem laid_met (os : Os) : laidMet Tryz.prog Rows.polytextPrintsRow.laid ((laidWorld os).forCall (fun _ _ => 0) ⟨#[], wargs, []⟩).memory :=
 laidMet_laidAll wargs (by kernel_rfl) (by kernel_rfl)
theorem reads (os : Os) {H : Type} (enc : TypeId × Value -> H) : ∃ places, DataW.whole enc Tryz.prog ((laidWorld os).forCall (fun _ _ => 0) ⟨#[], wargs, []⟩).memory Tryz.f3.params.toList Rows.polytextPrintsSpec.vars false wargs.toList 8 = some ([.nil, .nil], [], places) :=
 ⟨[], by kernel_rfl⟩
theorem lifted (os : Os) (started : os.Started) (H : Type) (enc : TypeId × Value -> H) (F : Stop.Interp) :
  ReturnsInHanded {} Tryz.checked os 3 .any ((OpenSpec.ofChange Rows.polytextPrintsSpec).preRow enc Tryz.prog Tryz.f3 Rows.polytextPrintsRow.domain false Rows.polytextPrintsRow.laid) (((OpenSpec.ofChange Rows.polytextPrintsSpec).at F).post enc Tryz.prog Tryz.f3 false true false false) := by
 obtain ⟨places, hx⟩ := reads os enc
 refine returnsInHanded_of_row (C := Tryz.checked) (s := OpenSpec.ofChange Rows.polytextPrintsSpec) own started (by kernel_rfl) Tryz.func3
  (witness_row_at (enc := enc) (C := Tryz.checked) false (laidWorld os) wargs (World.laidAll_os _ _ _) (by kernel_rfl) (by kernel_rfl) (by kernel_rfl)
   (OpenSpec.preRow_of_cond 8 hx (by kernel_rfl) (fun k hk => by cases hk) (by kernel_rfl) (laid_met os))) ?_
 intro W base args ds gs before hval hW _ _ _ hL _ _
 exact contract H enc W base args ds gs before hval hW hL
theorem said : Rows.PolytextPrintsSaid :=
 OpenClaim.holds_of_cond 3 Tryz.f3 rfl rfl rfl rfl rfl rfl rfl ⟨rfl, rfl, rfl, rfl, rfl⟩ rfl rfl rfl rfl rfl (by kernel_rfl) Tryz.func3 (by kernel_rfl)
  (of_decide_eq_true (by kernel_rfl)) (by unfold Func.isWrapper; first | (rw [if_pos (by decide +kernel)]; kernel_rfl) | (rw [if_neg (by decide +kernel)]; exact ⟨rfl, rfl⟩))
  (fun os started H enc _ F => by rw [OpenClaim.pre_eq_preRow]; exact lifted os started H enc F)
theorem plain (f : FuncId) (fn : Func) (hf : Tryz.pinned.checked.prog.funcNamed "geoprover/geoproverlaw07.PolytextPrints" = some f) (hfn : Tryz.pinned.checked.prog.funcs[f]? = some fn) :
  true = Tryz.pinned.checked.prog.looks [] /\ ∀ (j : Nat) t, fn.params[j]? = some t -> Tryz.pinned.checked.prog.wantsStandIn t = false := by
 obtain rfl : f = 3 := Option.some.inj ((show Tryz.prog.funcNamed "geoprover/geoproverlaw07.PolytextPrints" = some 3 by kernel_rfl).symm.trans hf) |>.symm
 obtain rfl : fn = Tryz.f3 := (Option.some.inj (Tryz.func3.symm.trans hfn)).symm
 refine ⟨by kernel_rfl, fun j t ht => ?_⟩
 rw [Tryz.params3] at ht
 obtain rfl | rfl : t = 23 \/ t = 24 := by simpa using Array.mem_of_getElem? ht
 · exact (show Tryz.prog.wantsStandIn 23 = false by kernel_rfl)
 · exact (show Tryz.prog.wantsStandIn 24 = false by kernel_rfl)
theorem card : Rows.PolytextPrintsCardSaid :=
 Claim7.holds_tied_plain_at .later [] _ _ _ _ said (fun _ h => by cases h) (by kernel_rfl) (fun _ h => by cases h) polytextPrints_row_tie rfl ⟨rfl, rfl⟩ (by kernel_rfl) rfl plain (by kernel_rfl)
#print axioms said
#print axioms card
end Go.Proofs.YtkjnkpkagcboeaaGreatDoor.polytextPrints
