/- Walks: whether a certificate is right, by the program and by the reference. -/
import Derived.Test.YtdnblkklgdnapaaGreatDoorCt15
set_option linter.all false
set_option maxRecDepth 100000
set_option maxHeartbeats 4000000
namespace Go.Proofs.YtdnblkklgdnapaaGreatDoor
open Go.RowKit
theorem crtP_any (F C : List (List Trm)) (P : List Int) (n : Int) (fa wa ca : Option Addr) (fc wc cc : Nat) (w : World) (h1 : PolysR w fa fc F) (h2 : IntsR w wa wc P) (h3 : PolysR w ca cc C) (hn : InInt n)
  (hq1 : ∀ p ∈ F, ∀ t ∈ p, t.coef.num.length <= 2000000 /\ t.coef.den.length <= 2000000) (hq2 : ∀ p ∈ C, ∀ t ∈ p, t.coef.num.length <= 2000000 /\ t.coef.den.length <= 2000000) :
  Calls Tryz.prog 22 #[.agg #[.slice fa F.length fc, .slice wa P.length wc, .int .i64 n, .slice ca C.length cc]] w fun e w' => e = .returned (.bool (crtB ⟨F, P, n, C⟩)) /\ Below w.heap.size w w' := by
 have hl1 := h1.len; have hl2 := h2.len; have hl3 := h3.len
 obtain ⟨hn1, hn2⟩ := hn
 obtain ⟨res, hres⟩ : ∃ x, crtB ⟨F, P, n, C⟩ = x := ⟨_, rfl⟩
 rw [hres]
 have HRES := Hd hres
 have H1 := Hd h1; have H2 := Hd h2; have H3 := Hd h3; have Q1 := Hd hq1; have Q2 := Hd hq2
 have hx := Blk.new w 25 #[.slice fa F.length fc, .slice wa P.length wc, .int .i64 n, .slice ca C.length cc]
 have hw0 : Below w.heap.size w (w.alloc (.cells #[.slice fa F.length fc, .slice wa P.length wc, .int .i64 n, .slice ca C.length cc] 25)) := brf.alloc (nlr _) _
 clear hres h1 h2 h3 hq1 hq2
 by_cases hpf : P.length = F.length
 case neg =>
  obtain rfl : res = false := by rw [<- HRES.out]; exact crtB_len hpf
  have hne : ((P.length : Int) != (F.length : Int)) = true := by simp; omega
  clear hpf
  go_enter Tryz.func22, Tryz.ntmps22
  go_wp2
  go_ret
  exact ⟨rfl, hw0⟩
 have hne : ((P.length : Int) != (F.length : Int)) = false := by simp; omega
 by_cases hp : 1 <= n /\ n <= 64
 case neg =>
  obtain rfl : res = false := by rw [<- HRES.out]; exact crtB_pow hp
  clear hpf
  by_cases hlo : n < 1
  ·
   clear hp
   go_enter Tryz.func22, Tryz.ntmps22
   go_wp2
   go_ret
   exact ⟨rfl, hw0⟩
  ·
   have hhi : 64 < n := by omega
   clear hp
   go_enter Tryz.func22, Tryz.ntmps22
   go_wp2
   go_ret
   exact ⟨rfl, hw0⟩
 have HPF := Hd hpf
 obtain ⟨hp1, hp2⟩ := hp
 clear hpf
 go_enter Tryz.func22, Tryz.ntmps22
 go_wp2
 revert hx hw0
 generalize w.alloc (.cells #[.slice fa F.length fc, .slice wa P.length wc, .int .i64 n, .slice ca C.length cc] 25) = w0
 intro hx hw0
 clear hne
 go_loopg [27] F.length (fun g q wr => ∃ k : Nat, k + g = F.length /\ q = .int .i64 k /\ Below w.heap.size w wr /\ Blk wr w.heap.size 25 #[.slice fa F.length fc, .slice wa P.length wc, .int .i64 n, .slice ca C.length cc] /\ ∀ j, j < k -> facB ⟨F, P, n, C⟩ j = true)
 case atStart => exact ⟨0, by omega, rfl, hw0, hx, fun j hj => by omega⟩
 case round =>
  clear hx hw0
  obtain ⟨k, hkg, rfl, hwr, hx, hall⟩ := hrel
  have HKG := Hd hkg
  have HA := Hd hall
  have hxl := hx.lt
  have z0 := hx.cell 0; have z1 := hx.cell 1; have z2 := hx.cell 2; have z3 := hx.cell 3
  have HX := Hd hx
  clear hkg hall hx
  by_cases hlt : k < F.length
  ·
   obtain ⟨x, hxx⟩ := get_of_lt (xs := P) (k := k) (by rw [HPF.out]; exact hlt)
   obtain ⟨f, hf⟩ := get_of_lt hlt
   have hkp : k < P.length := lt_of_get hxx
   obtain ⟨b, off, hao, hc, hx1, hx2⟩ := ints_cell (H2.out.ext (xbw hwr)) hxx
   obtain ⟨b', off', hao', pa, pc, hc', hPR⟩ := (H1.out.ext (xbw hwr)).2.2 k f hf
   subst hao hao'
   have hfl := hPR.len
   have hfac := facB_of (c := ⟨F, P, n, C⟩) hxx hf
   have CP := polyP_any f pa pc wr hPR (Q1.out f (List.mem_of_getElem? hf))
   have HF := Hd hfac
   simp only [Nat.mul_one] at hc'
   have hbl : b < wr.heap.size := World.block_lt_of_cell? wr _ hc
   have hbl' : b' < wr.heap.size := World.block_lt_of_cell? wr _ hc'
   clear hxx hf hPR hfac
   by_cases hxr : 0 <= x /\ x <= 64
   case neg =>
    obtain rfl : res = false := by rw [<- HRES.out]; exact crtB_fac hlt (by rw [HF.out, decide_eq_false hxr]; rfl)
    clear CP
    by_cases hx0 : x < 0
    ·
     clear hxr
     go_wp2
     go_ret
     exact ⟨rfl, hwr⟩
    ·
     have hx64 : 64 < x := by omega
     clear hxr
     go_wp2
     go_ret
     exact ⟨rfl, hwr⟩
   have HF2 := HF.out
   rw [decide_eq_true hxr] at HF2
   obtain ⟨hxr1, hxr2⟩ := hxr
   by_cases hf0 : f.length = 0
   ·
    obtain rfl : res = false := by rw [<- HRES.out]; exact crtB_fac hlt (by rw [HF2, decide_eq_true hf0]; rfl)
    have he0 : ((f.length : Int) == 0) = true := by simp [hf0]
    clear CP HF2 hf0
    go_wp2
    go_ret
    exact ⟨rfl, hwr⟩
   ·
    have he0 : ((f.length : Int) == 0) = false := by simp; exact fun e => hf0 (by simp [e])
    rw [decide_eq_false hf0] at HF2
    revert CP HF2
    generalize polyB f = pb
    intro CP HF2
    replace CP := Hd CP
    replace HF2 := Hd HF2
    clear hf0 HF
    cases pb
    ·
     obtain rfl : res = false := by rw [<- HRES.out]; exact crtB_fac hlt (by rw [HF2.out]; rfl)
     clear HF2
     go_wp2_with fail
     refine CP.out.mono ?_
     rintro e w2 ⟨rfl, hb2⟩
     have hw2 := bth hwr hb2
     go_wp2
     go_ret
     exact ⟨rfl, hw2⟩
    ·
     go_wp2_with fail
     refine CP.out.mono ?_
     rintro e w2 ⟨rfl, hb2⟩
     have hw2 := bth hwr hb2
     have hx2 := HX.out.below' hb2
     go_wp2
     go_roundg (gk - 1)
     case rel => exact ⟨k + 1, by have := HKG.out; omega, by go_num, hw2, hx2, all_succ HA.out (by rw [HF2.out]; rfl)⟩
     case measure => have := HKG.out; omega
  ·
   have hfin : ∀ j, j < F.length -> facB ⟨F, P, n, C⟩ j = true := fun j hj => HA.out j (by omega)
   have HFIN := Hd hfin
   obtain ⟨wo, rfl⟩ : ∃ wo : World, wo = wr := ⟨_, rfl⟩
   clear hfin HKG HA
   go_wp2
   go_loopg [60] C.length (fun g q wr => ∃ k : Nat, k + g = C.length /\ q = .int .i64 k /\ Below w.heap.size w wr /\ (C.take k).all polyB = true)
   case atStart => exact ⟨0, by omega, rfl, hwr, rfl⟩
   case round =>
    clear HX z0 z1 z2 z3 hxl hwr
    obtain ⟨k2, hkg, rfl, hwr, hall⟩ := hrel
    have HKG := Hd hkg
    have HA := Hd hall
    clear hkg hall
    by_cases hlt2 : k2 < C.length
    ·
     obtain ⟨f, hf⟩ := get_of_lt hlt2
     obtain ⟨b', off', hao', pa, pc, hc', hPR⟩ := (H3.out.ext (xbw hwr)).2.2 k2 f hf
     subst hao'
     have hfl := hPR.len
     have CP := polyP_any f pa pc wr hPR (Q2.out f (List.mem_of_getElem? hf))
     have HF := Hd hf
     simp only [Nat.mul_one] at hc'
     have hbl' : b' < wr.heap.size := World.block_lt_of_cell? wr _ hc'
     clear hf hPR
     cases hpb : polyB f
     ·
      rw [hpb] at CP
      obtain rfl : res = false := by rw [<- HRES.out]; exact crtB_cof HF.out hpb
      replace CP := Hd CP
      clear hpb
      go_wp2_with fail
      refine CP.out.mono ?_
      rintro e w2 ⟨rfl, hb2⟩
      have hw2 := bth hwr hb2
      go_wp2
      go_ret
      exact ⟨rfl, hw2⟩
     ·
      rw [hpb] at CP
      replace CP := Hd CP
      have HPB := Hd hpb
      clear hpb
      go_wp2_with fail
      refine CP.out.mono ?_
      rintro e w2 ⟨rfl, hb2⟩
      have hw2 := bth hwr hb2
      go_wp2
      go_roundg (gk - 1)
      case rel => exact ⟨k2 + 1, by have := HKG.out; omega, by go_num, hw2, all_take HA.out HF.out HPB.out⟩
      case measure => have := HKG.out; omega
    ·
     have HA2 := HA.out
     rw [show k2 = C.length by have := HKG.out; omega] at HA2
     obtain rfl : res = true := by rw [<- HRES.out]; exact crtB_good HPF.out ⟨hp1, hp2⟩ HFIN.out HA2
     clear HA2
     go_wp2
     go_ret
     exact ⟨rfl, hwr⟩
theorem crtR_any (F C : List (List Trm)) (P : List Int) (n : Int) (fa wa ca : Option Addr) (fc wc cc : Nat) (w : World) (h1 : PolysR w fa fc F) (h2 : IntsR w wa wc P) (h3 : PolysR w ca cc C) (hn : InInt n)
  (hq1 : ∀ p ∈ F, ∀ t ∈ p, t.coef.num.length <= 2000000 /\ t.coef.den.length <= 2000000) (hq2 : ∀ p ∈ C, ∀ t ∈ p, t.coef.num.length <= 2000000 /\ t.coef.den.length <= 2000000) :
  Calls Tryz.prog 26 #[.agg #[.slice fa F.length fc, .slice wa P.length wc, .int .i64 n, .slice ca C.length cc]] w fun e w' => e = .returned (.bool (crtB ⟨F, P, n, C⟩)) /\ Below w.heap.size w w' := by
 have hl1 := h1.len; have hl2 := h2.len; have hl3 := h3.len
 obtain ⟨hn1, hn2⟩ := hn
 obtain ⟨res, hres⟩ : ∃ x, crtB ⟨F, P, n, C⟩ = x := ⟨_, rfl⟩
 rw [hres]
 have HRES := Hd hres
 have H1 := Hd h1; have H2 := Hd h2; have H3 := Hd h3; have Q1 := Hd hq1; have Q2 := Hd hq2
 have hx := Blk.new w 25 #[.slice fa F.length fc, .slice wa P.length wc, .int .i64 n, .slice ca C.length cc]
 have hw0 : Below w.heap.size w (w.alloc (.cells #[.slice fa F.length fc, .slice wa P.length wc, .int .i64 n, .slice ca C.length cc] 25)) := brf.alloc (nlr _) _
 clear hres h1 h2 h3 hq1 hq2
 by_cases hpf : P.length = F.length
 case neg =>
  obtain rfl : res = false := by rw [<- HRES.out]; exact crtB_len hpf
  have hne : ((P.length : Int) != (F.length : Int)) = true := by simp; omega
  clear hpf
  go_enter Tryz.func26, Tryz.ntmps26
  go_wp2
  go_ret
  exact ⟨rfl, hw0⟩
 have hne : ((P.length : Int) != (F.length : Int)) = false := by simp; omega
 by_cases hp : 1 <= n /\ n <= 64
 case neg =>
  obtain rfl : res = false := by rw [<- HRES.out]; exact crtB_pow hp
  clear hpf
  by_cases hlo : n < 1
  ·
   clear hp
   go_enter Tryz.func26, Tryz.ntmps26
   go_wp2
   go_ret
   exact ⟨rfl, hw0⟩
  ·
   have hhi : 64 < n := by omega
   clear hp
   go_enter Tryz.func26, Tryz.ntmps26
   go_wp2
   go_ret
   exact ⟨rfl, hw0⟩
 have HPF := Hd hpf
 obtain ⟨hp1, hp2⟩ := hp
 clear hpf
 go_enter Tryz.func26, Tryz.ntmps26
 go_wp2
 revert hx hw0
 generalize w.alloc (.cells #[.slice fa F.length fc, .slice wa P.length wc, .int .i64 n, .slice ca C.length cc] 25) = w0
 intro hx hw0
 clear hne
 go_loopg [27] F.length (fun g q wr => ∃ k : Nat, k + g = F.length /\ q = .int .i64 k /\ Below w.heap.size w wr /\ Blk wr w.heap.size 25 #[.slice fa F.length fc, .slice wa P.length wc, .int .i64 n, .slice ca C.length cc] /\ ∀ j, j < k -> facB ⟨F, P, n, C⟩ j = true)
 case atStart => exact ⟨0, by omega, rfl, hw0, hx, fun j hj => by omega⟩
 case round =>
  clear hx hw0
  obtain ⟨k, hkg, rfl, hwr, hx, hall⟩ := hrel
  have HKG := Hd hkg
  have HA := Hd hall
  have hxl := hx.lt
  have z0 := hx.cell 0; have z1 := hx.cell 1; have z2 := hx.cell 2; have z3 := hx.cell 3
  have HX := Hd hx
  clear hkg hall hx
  by_cases hlt : k < F.length
  ·
   obtain ⟨x, hxx⟩ := get_of_lt (xs := P) (k := k) (by rw [HPF.out]; exact hlt)
   obtain ⟨f, hf⟩ := get_of_lt hlt
   have hkp : k < P.length := lt_of_get hxx
   obtain ⟨b, off, hao, hc, hx1, hx2⟩ := ints_cell (H2.out.ext (xbw hwr)) hxx
   obtain ⟨b', off', hao', pa, pc, hc', hPR⟩ := (H1.out.ext (xbw hwr)).2.2 k f hf
   subst hao hao'
   have hfl := hPR.len
   have hfac := facB_of (c := ⟨F, P, n, C⟩) hxx hf
   have CP := polyR_any f pa pc wr hPR (Q1.out f (List.mem_of_getElem? hf))
   have HF := Hd hfac
   simp only [Nat.mul_one] at hc'
   have hbl : b < wr.heap.size := World.block_lt_of_cell? wr _ hc
   have hbl' : b' < wr.heap.size := World.block_lt_of_cell? wr _ hc'
   clear hxx hf hPR hfac
   by_cases hxr : 0 <= x /\ x <= 64
   case neg =>
    obtain rfl : res = false := by rw [<- HRES.out]; exact crtB_fac hlt (by rw [HF.out, decide_eq_false hxr]; rfl)
    clear CP
    by_cases hx0 : x < 0
    ·
     clear hxr
     go_wp2
     go_ret
     exact ⟨rfl, hwr⟩
    ·
     have hx64 : 64 < x := by omega
     clear hxr
     go_wp2
     go_ret
     exact ⟨rfl, hwr⟩
   have HF2 := HF.out
   rw [decide_eq_true hxr] at HF2
   obtain ⟨hxr1, hxr2⟩ := hxr
   by_cases hf0 : f.length = 0
   ·
    obtain rfl : res = false := by rw [<- HRES.out]; exact crtB_fac hlt (by rw [HF2, decide_eq_true hf0]; rfl)
    have he0 : ((f.length : Int) == 0) = true := by simp [hf0]
    clear CP HF2 hf0
    go_wp2
    go_ret
    exact ⟨rfl, hwr⟩
   ·
    have he0 : ((f.length : Int) == 0) = false := by simp; exact fun e => hf0 (by simp [e])
    rw [decide_eq_false hf0] at HF2
    revert CP HF2
    generalize polyB f = pb
    intro CP HF2
    replace CP := Hd CP
    replace HF2 := Hd HF2
    clear hf0 HF
    cases pb
    ·
     obtain rfl : res = false := by rw [<- HRES.out]; exact crtB_fac hlt (by rw [HF2.out]; rfl)
     clear HF2
     go_wp2_with fail
     refine CP.out.mono ?_
     rintro e w2 ⟨rfl, hb2⟩
     have hw2 := bth hwr hb2
     go_wp2
     go_ret
     exact ⟨rfl, hw2⟩
    ·
     go_wp2_with fail
     refine CP.out.mono ?_
     rintro e w2 ⟨rfl, hb2⟩
     have hw2 := bth hwr hb2
     have hx2 := HX.out.below' hb2
     go_wp2
     go_roundg (gk - 1)
     case rel => exact ⟨k + 1, by have := HKG.out; omega, by go_num, hw2, hx2, all_succ HA.out (by rw [HF2.out]; rfl)⟩
     case measure => have := HKG.out; omega
  ·
   have hfin : ∀ j, j < F.length -> facB ⟨F, P, n, C⟩ j = true := fun j hj => HA.out j (by omega)
   have HFIN := Hd hfin
   obtain ⟨wo, rfl⟩ : ∃ wo : World, wo = wr := ⟨_, rfl⟩
   clear hfin HKG HA
   go_wp2
   go_loopg [60] C.length (fun g q wr => ∃ k : Nat, k + g = C.length /\ q = .int .i64 k /\ Below w.heap.size w wr /\ (C.take k).all polyB = true)
   case atStart => exact ⟨0, by omega, rfl, hwr, rfl⟩
   case round =>
    clear HX z0 z1 z2 z3 hxl hwr
    obtain ⟨k2, hkg, rfl, hwr, hall⟩ := hrel
    have HKG := Hd hkg
    have HA := Hd hall
    clear hkg hall
    by_cases hlt2 : k2 < C.length
    ·
     obtain ⟨f, hf⟩ := get_of_lt hlt2
     obtain ⟨b', off', hao', pa, pc, hc', hPR⟩ := (H3.out.ext (xbw hwr)).2.2 k2 f hf
     subst hao'
     have hfl := hPR.len
     have CP := polyR_any f pa pc wr hPR (Q2.out f (List.mem_of_getElem? hf))
     have HF := Hd hf
     simp only [Nat.mul_one] at hc'
     have hbl' : b' < wr.heap.size := World.block_lt_of_cell? wr _ hc'
     clear hf hPR
     cases hpb : polyB f
     ·
      rw [hpb] at CP
      obtain rfl : res = false := by rw [<- HRES.out]; exact crtB_cof HF.out hpb
      replace CP := Hd CP
      clear hpb
      go_wp2_with fail
      refine CP.out.mono ?_
      rintro e w2 ⟨rfl, hb2⟩
      have hw2 := bth hwr hb2
      go_wp2
      go_ret
      exact ⟨rfl, hw2⟩
     ·
      rw [hpb] at CP
      replace CP := Hd CP
      have HPB := Hd hpb
      clear hpb
      go_wp2_with fail
      refine CP.out.mono ?_
      rintro e w2 ⟨rfl, hb2⟩
      have hw2 := bth hwr hb2
      go_wp2
      go_roundg (gk - 1)
      case rel => exact ⟨k2 + 1, by have := HKG.out; omega, by go_num, hw2, all_take HA.out HF.out HPB.out⟩
      case measure => have := HKG.out; omega
    ·
     have HA2 := HA.out
     rw [show k2 = C.length by have := HKG.out; omega] at HA2
     obtain rfl : res = true := by rw [<- HRES.out]; exact crtB_good HPF.out ⟨hp1, hp2⟩ HFIN.out HA2
     clear HA2
     go_wp2
     go_ret
     exact ⟨rfl, hwr⟩
end Go.Proofs.YtdnblkklgdnapaaGreatDoor
