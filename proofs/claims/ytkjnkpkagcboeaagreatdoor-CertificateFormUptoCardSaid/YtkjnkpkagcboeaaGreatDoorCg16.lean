/- Ten times a number and a digit, limb by limb. Plain. -/
import Derived.Test.YtkjnkpkagcboeaaGreatDoorCg15
import Derived.Test.YtkjnkpkagcboeaaGreatDoorCg1
set_option linter.all false
set_option maxRecDepth 100000
set_option maxHeartbeats 4000000
namespace Go.Proofs.YtkjnkpkagcboeaaGreatDoor
open Go.RowKit
def ArrZ (w : World) (g : Nat) (l : List Int) : Prop := Blk w g 178 (l.map (Value.int .i64)).toArray
section
variable {w w' : World} {g : Nat} {l : List Int}
theorem ArrZ.cell (h : ArrZ w g l) {i : Nat} {x : Int} (hx : l[i]? = some x) : w.cell? ⟨g, i, none⟩ = some (.int .i64 x) := by
 rw [Blk.cell h i]
 simp [hx]
theorem ArrZ.set_ (h : ArrZ w g l) (i : Nat) (x : Int) : ArrZ (w.setCell ⟨g, i, none⟩ (.int .i64 x)) g (l.set i x) := by
 have := Blk.set_ h i (.int .i64 x)
 unfold ArrZ
 rw [List.setIfInBounds_toArray, <- List.map_set] at this
 exact this
theorem ArrZ.reads (h : ArrZ w g l) (hs : ∀ x ∈ l, 0 <= x /\ x <= 2097152) (hl : l.length = 64) : IntsR w (some ⟨g, 0, none⟩) 64 l :=
 ⟨by omega, by simp [maxLen], fun k x hx => ⟨g, 0, rfl, by simpa using h.cell hx, wf_of (by have := hs x (List.mem_of_getElem? hx); unfold InInt; omega)⟩⟩
end
theorem Kp.low {R : World -> Prop} {B B' T : Nat} {w : World} (h : Kp R B T w) (hB : B' <= B) : Kp R B' T w := fun V hV => h V fun p v h1 => hV p v (Nat.le_trans hB h1)
def InZ (m : List Int) : Prop := m.length = 64 /\ ∀ x ∈ m, 0 <= x /\ x <= 2097152
theorem InM.z {m : List Int} (h : InM m) : InZ m := ⟨h.1, fun x hx => by have := h.2 x hx; omega⟩
theorem InM.at_ {m : List Int} (h : InM m) {v : Nat} (hv : v < 64) : m[v]? = some (expAt m v) /\ 0 <= expAt m v /\ expAt m v <= 1048576 := by
 obtain ⟨x, hx⟩ := get_of_lt (xs := m) (k := v) (by rw [h.1]; exact hv)
 have e : expAt m v = x := by unfold expAt; rw [List.getD_eq_getElem?_getD, hx]; rfl
 rw [e]
 exact ⟨hx, h.2 x (List.mem_of_getElem? hx)⟩
theorem InM.put {m : List Int} (h : InM m) {v : Nat} {x : Int} (h0 : 0 <= x) (h1 : x <= 1048576) : InM (m.set v x) := ⟨by rw [List.length_set]; exact h.1, fun y hy => by
 rcases List.mem_or_eq_of_mem_set hy with hy | rfl
 · exact h.2 y hy
 · exact ⟨h0, h1⟩⟩
theorem InM.putz {m : List Int} (h : InM m) {v : Nat} {x : Int} (h0 : 0 <= x) (h1 : x <= 2097152) : InZ (m.set v x) := ⟨by rw [List.length_set]; exact h.1, fun y hy => by
 rcases List.mem_or_eq_of_mem_set hy with hy | rfl
 · exact h.z.2 y hy
 · exact ⟨h0, h1⟩⟩
theorem powG_name {names : List ByteArray} {l : List UInt8} {k : Nat} {e : Int} (h : namG names l = .bad k e) : powG names l = .bad k e := by unfold powG; rw [h]; rfl
theorem powG_one {names : List ByteArray} {l r : List UInt8} {v : Nat} (h : namG names l = .ok v r) (hr : r[0]? ≠ some 94) : powG names l = .ok (v, 1) r := by
 unfold powG; rw [h]; show (if _ then _ else _) = _; rw [if_neg hr]
theorem powG_exp {names : List ByteArray} {l r : List UInt8} {v : Nat} (h : namG names l = .ok v r) (hr : r[0]? = some 94) : powG names l = (expG (r.drop 1)).bnd fun n r2 => .ok (v, (n : Int)) r2 := by
 unfold powG
 rw [h]
 show (if _ then _ else _) = _
 rw [if_pos hr]
 unfold expG
 cases numG (r.drop 1) with
 | bad k e => rfl
 | ok d r2 =>
  show (if _ then _ else _) = (Got.bnd (if _ then _ else _) _)
  split <;> rfl
theorem proG_bad {names : List ByteArray} {F n : Nat} {m : List Int} {l : List UInt8} {k : Nat} {e : Int} (h : powG names l = .bad k e) : proG names F (n + 1) m l = .bad k e := by rw [proG, h]; rfl
theorem proG_big {names : List ByteArray} {F n : Nat} {m : List Int} {l r : List UInt8} {v : Nat} {x : Int} (h : powG names l = .ok (v, x) r) (hb : 1048576 < expAt m v + x) : proG names F (n + 1) m l = .bad F 4 := by
 rw [proG, h]; show (if _ then _ else _) = _; rw [if_pos hb]
theorem proG_next {names : List ByteArray} {F n : Nat} {m : List Int} {l r : List UInt8} {v : Nat} {x : Int} (h : powG names l = .ok (v, x) r) (hb : ¬ 1048576 < expAt m v + x) (hr : r[0]? = some 42) : proG names F (n + 1) m l = proG names F n (m.set v (expAt m v + x)) (r.drop 1) := by
 rw [proG, h]; show (if _ then _ else _) = _; rw [if_neg hb, if_pos hr]; rfl
theorem proG_end {names : List ByteArray} {F n : Nat} {m : List Int} {l r : List UInt8} {v : Nat} {x : Int} (h : powG names l = .ok (v, x) r) (hb : ¬ 1048576 < expAt m v + x) (hr : r[0]? ≠ some 42) : proG names F (n + 1) m l = .ok (m.set v (expAt m v + x)) r := by
 rw [proG, h]; show (if _ then _ else _) = _; rw [if_neg hb, if_neg hr]; rfl
def ProS (wr : World) (g mb g5 : Nat) (s : ByteArray) (names : List ByteArray) (F : Nat) (PG : Got (List Int)) (gk : Nat) : Prop :=
 (∃ (p fu : Nat) (m : List Int), p <= s.size /\ s.size - p < gk /\ s.size - p < fu /\ InM m /\ RdA wr g s mb p 0 0 /\ ArrZ wr g5 m /\ PG = proG names F fu m (tl s p)) \/
 ∃ (k : Nat) (er : Int) (m : List Int), InZ m /\ StE wr g s mb k er /\ ArrZ wr g5 m /\ PG = .bad k er
theorem namG_less {names : List ByteArray} {l r : List UInt8} {v : Nat} (h : namG names l = .ok v r) : r.length < l.length := by
 unfold namG at h
 split at h
 · exact absurd h fun e => lost_ok e
 ·
  next h0 =>
  split at h
  · cases h
  ·
   injection h with h1 h2
   subst h2
   have : l ≠ [] := fun e => h0 (by rw [e]; rfl)
   have := List.length_pos_iff.2 this
   rw [List.length_drop]; omega
theorem expG_less {l r : List UInt8} {n : Nat} (h : expG l = .ok n r) : r.length <= l.length := by
 unfold expG numG at h
 split at h
 · unfold lost at h; split at h <;> cases h
 ·
  split at h
  · cases h
  ·
   change (if _ then _ else _) = _ at h
   split at h
   · cases h
   ·
    injection h with h1 h2
    subst h2
    rw [List.length_drop]; omega
theorem product_any (g mb a nm b0 : Nat) (s : ByteArray) (names : List ByteArray) (w : World) (h : RdA w g s mb a 0 0) (ha : a <= s.size) (hs : s.size <= 281474976710656) (hm : OwnV w mb nm (names.take 64)) (hne : mb ≠ g) (he : ErrW w) (hge : Tryz.lays172_ren.g 16 ≠ g) (hb0 : b0 <= s.size) :
  Calls Tryz.prog 120 #[.pointer (some ⟨g, 0, none⟩), .int .i64 b0] w fun u w' => ∃ m a' c', u = .returned (.slice a' m.length c') /\ (∀ m' r, ((proG names (s.size - b0) ((tl s a).length + 1) zerM (tl s a)).bnd fun m r => (.ok (cutM m) r : Got (List Int))) = .ok m' r -> m = m') /\
   Kp (fun V => IntsR V a' c' m) w.heap.size w'.heap.size w' /\ StG w' g s mb ((proG names (s.size - b0) ((tl s a).length + 1) zerM (tl s a)).bnd fun m r => (.ok (cutM m) r : Got (List Int))) /\ Fg g w w' := by
 have HM := Hd (fun W (hW : Fg g w W) => hm.fr hW hne)
 have HE := Hd (fun W (hW : Fg g w W) => he.fr hW hge)
 obtain ⟨PG, hPG0⟩ : ∃ G, proG names (s.size - b0) ((tl s a).length + 1) zerM (tl s a) = G := ⟨_, rfl⟩
 rw [hPG0]
 rw [tl_len] at hPG0
 obtain ⟨GG, hGG⟩ : ∃ G, (PG.bnd fun m r => (.ok (cutM m) r : Got (List Int))) = G := ⟨_, rfl⟩
 rw [hGG]
 replace hGG := Hd hGG; replace hPG0 := Hd hPG0
 have hlg := Hd h.lt
 have hR0 := Hd (fun o => show RdA (w.alloc o) g s mb a 0 0 from bA h)
 clear h hm he
 go_enter Tryz.func120, Tryz.ntmps120
 go_wp2
 refine world_gen (fun W => RdA W g s mb a 0 0 /\ ArrZ W w.heap.size zerM /\ Fg g w W) ⟨hR0.out _, Blk.new w _ _, (Fr.refl _ _).alloc _⟩ ?_
 rintro w0 ⟨h0, hA0, hf0⟩
 obtain ⟨g5, hg50⟩ : ∃ q, w.heap.size = q := ⟨_, rfl⟩
 have hg5w : Hid (w.heap.size <= g5) := Hd (by omega)
 have hg5 : Hid (g < g5) := Hd (by have := hlg.out; omega)
 rw [hg50] at hA0 ⊢
 replace hg50 := Hd hg50
 clear hR0
 go_loopg [6, 7] (s.size + 2) (fun gk _ _ wr => ProS wr g mb g5 s names (s.size - b0) PG gk /\ Fg g w wr)
 case atStart => exact ⟨.inl ⟨a, s.size - a + 1, zerM, ha, by omega, by omega, zerM_in, h0, hA0, hPG0.out.symm⟩, hf0⟩
 case round =>
  clear h0 hA0 hf0
  obtain ⟨hP, hf⟩ := hrel
  rcases hP with ⟨p, fu, m, hp, hgk, hfu, hM, hR, hArr, hPG⟩ | ⟨k, er, mz, hin, hSE, hArr, hPG⟩
  ·
   obtain ⟨fu, rfl⟩ : ∃ f, fu = f + 1 := ⟨fu - 1, by omega⟩
   have CN := Hd (name_any g mb p nm s names wr hR hp hs (HM.out wr hf) hne)
   replace hM := Hd hM; replace hPG := Hd hPG; replace hgk := Hd hgk; replace hfu := Hd hfu
   have z0 := Blk.cell hR 0; have z1 := Blk.cell hR 1; have z2 := Blk.cell hR 2; have z3 := Blk.cell hR 3; have z4 := Blk.cell hR 4
   have hl := hR.lt
   have hpw1 := fun k e => powG_name (names := names) (l := tl s p) (k := k) (e := e)
   have hpw2 := fun v r => powG_one (names := names) (l := tl s p) (r := r) (v := v)
   have hpw3 := fun v r => powG_exp (names := names) (l := tl s p) (r := r) (v := v)
   obtain ⟨NG, hNG⟩ : ∃ G, namG names (tl s p) = G := ⟨_, rfl⟩
   rw [hNG] at CN hpw1 hpw2 hpw3
   have hlen := Hd (show ∀ v r, NG = .ok v r -> r.length < s.size - p from fun v r e => by have := namG_less (hNG.trans e); rwa [tl_len] at this)
   replace CN := Hd CN.out; replace hNG := Hd hNG; replace hpw1 := Hd hpw1; replace hpw2 := Hd hpw2; replace hpw3 := Hd hpw3
   clear hR
   go_wp2_with fail
   refine CN.out.mono ?_
   rintro e w1 ⟨v, rfl, hv64, hvv, hS1, hf1⟩
   have hf2 := hf.trans hf1
   have hArr2 : ArrZ w1 g5 m := Blk.fr hArr hf1 (by have := hg5.out; omega)
   clear CN z0 z1 z2 z3 z4 hl hArr hf hf1
   cases NG with
   | bad k er =>
    have hSE0 : StE w1 g s mb k er := hS1
    clear hS1 hvv
    -- the exponents are written behind an error, in world w1
    obtain ⟨hmx, x0, x1⟩ := hM.out.at_ hv64
    have hcx := ArrZ.cell hArr2 hmx
    have hfz := Blk.frozen hArr2 v
    have hgl5 := Blk.lt hArr2
    obtain ⟨x, hx⟩ : ∃ x, expAt m v = x := ⟨_, rfl⟩
    rw [hx] at hcx x0 x1
    have hArr3 := Hd (ArrZ.set_ hArr2 v (x + 1))
    have hf3 := Hd (hf2.setc (g := g5) (i := v) (u := .int .i64 (x + 1)) (.inr hg5w.out))
    have hinz := Hd (hM.out.putz (v := v) (x := x + 1) (by omega) (by omega))
    have hvi : (v : Int) < 64 := by omega
    obtain ⟨mz, hmz⟩ : ∃ z, m.set v (x + 1) = z := ⟨_, rfl⟩
    rw [hmz] at hinz hArr3
    replace hmz := Hd hmz
    clear hArr2 hmx
    obtain ⟨pe, hpe, hke, h0e, hRe0⟩ := hSE0
    have hRe3 := Hd (show RdA (w1.setCell ⟨g5, v, none⟩ (.int .i64 (x + 1))) g s mb pe er ((s.size - k : Nat) : Int) from bF (by have := hg5.out; omega) hRe0)
    have hin := hinz
    have hzE : (er == 0) = false := by rw [beq_eq_false_iff_ne]; exact h0e
    have hzE2 : (er != 0) = true := by rw [bne, hzE]; rfl
    have hPGb := Hd (show PG = .bad k er from hPG.out.trans (proG_bad (hpw1.out k er rfl)))
    have z0 := Blk.cell hRe0 0; have z1 := Blk.cell hRe0 1; have z2 := Blk.cell hRe0 2; have z3 := Blk.cell hRe0 3; have z4 := Blk.cell hRe0 4
    have hl2 := Blk.lt hRe0
    replace hx := Hd hx; replace h0e := Hd h0e
    clear hRe0
    by_cases hbig : 1048576 < x + 1
    ·
     go_wp2_with fail
     refine calls_gen (fun W => RdA W g s mb pe er ((s.size - k : Nat) : Int) /\ ArrZ W g5 mz /\ Fg g w W) ⟨hRe3.out, hArr3.out, hf3.out⟩ ?_
     rintro W6 ⟨hRe, hArr6, hf6⟩
     clear hRe3 hArr3 hf3 z0 z1 z2 z3 z4 hcx hfz
     refine (fail_no g mb pe s er ((s.size - k : Nat) : Int) 4 (b0 : Int) W6 hRe h0e.out).mono ?_
     rintro e w' ⟨rfl, rfl⟩
     go_wp2_with fail
     -- at the question for the star, in world W6, behind an error
     have CP := Hd (peek_any g mb pe s er ((s.size - k : Nat) : Int) 42 W6 hRe hpe hs)
     obtain ⟨bp, hbp⟩ : ∃ b, nxtB (tl s pe) 42 = b := ⟨_, rfl⟩
     rw [hbp] at CP
     replace hbp := Hd hbp
     refine CP.out.mono ?_
     rintro e w7 ⟨rfl, hb7⟩
     have hRe7 := hRe.below hb7
     have hArrX := Hd (show ArrZ w7 g5 mz from Blk.below' hArr6 hb7)
     have hfX := Hd (hf6.call hb7)
     have hSEX := Hd (show StE w7 g s mb k er from ⟨pe, hpe, hke, h0e.out, hRe7⟩)
     clear CP
     cases bp
     ·
      clear hRe7
      -- the end behind an error
      have hGe := Hd (show GG = .bad k er by rw [<- hGG.out, hPGb.out]; rfl)
      have hI := hArrX.out.reads hin.out.2 hin.out.1
      have CN := normM_any mz (some ⟨g5, 0, none⟩) 64 w7 hI (by rw [hin.out.1]; omega)
      rw [hin.out.1] at CN
      obtain ⟨RV, hRV⟩ : ∃ R, (if monoB (cutM mz) = true then cutM mz else []) = R := ⟨_, rfl⟩
      rw [hRV] at CN
      replace hRV := Hd hRV
      replace CN := Hd CN
      clear hI
      go_wp2_with fail
      refine CN.out.mono ?_
      rintro e w9 ⟨a9, c9, rfl, hK9, hb9⟩
      have hSE9 := hSEX.out.below hb9
      go_wp2
      go_ret
      exact ⟨_, a9, c9, rfl, fun m' r e => (by cases hGe.out.symm.trans e), hK9.low hfX.out.size, by rw [hGe.out]; exact hSE9, hfX.out.call hb9⟩
     ·
      have hl7 := Blk.lt hRe7
      have z0 := Blk.cell hRe7 0; have z1 := Blk.cell hRe7 1; have z2 := Blk.cell hRe7 2; have z3 := Blk.cell hRe7 3; have z4 := Blk.cell hRe7 4
      clear hRe7
      go_wp2
      go_roundg 0
      case rel => exact ⟨.inr ⟨k, er, mz, hin.out, hSEX.out, hArrX.out, hPGb.out⟩, hfX.out⟩
      case measure => have := hgk.out; omega
    ·
     go_wp2_with fail
     refine calls_gen (fun W => RdA W g s mb pe er ((s.size - k : Nat) : Int) /\ ArrZ W g5 mz /\ Fg g w W) ⟨hRe3.out, hArr3.out, hf3.out⟩ ?_
     rintro W6 ⟨hRe, hArr6, hf6⟩
     clear hRe3 hArr3 hf3 z0 z1 z2 z3 z4 hcx hfz
     -- at the question for the star, in world W6, behind an error
     have CP := Hd (peek_any g mb pe s er ((s.size - k : Nat) : Int) 42 W6 hRe hpe hs)
     obtain ⟨bp, hbp⟩ : ∃ b, nxtB (tl s pe) 42 = b := ⟨_, rfl⟩
     rw [hbp] at CP
     replace hbp := Hd hbp
     refine CP.out.mono ?_
     rintro e w7 ⟨rfl, hb7⟩
     have hRe7 := hRe.below hb7
     have hArrX := Hd (show ArrZ w7 g5 mz from Blk.below' hArr6 hb7)
     have hfX := Hd (hf6.call hb7)
     have hSEX := Hd (show StE w7 g s mb k er from ⟨pe, hpe, hke, h0e.out, hRe7⟩)
     clear CP
     cases bp
     ·
      clear hRe7
      -- the end behind an error
      have hGe := Hd (show GG = .bad k er by rw [<- hGG.out, hPGb.out]; rfl)
      have hI := hArrX.out.reads hin.out.2 hin.out.1
      have CN := normM_any mz (some ⟨g5, 0, none⟩) 64 w7 hI (by rw [hin.out.1]; omega)
      rw [hin.out.1] at CN
      obtain ⟨RV, hRV⟩ : ∃ R, (if monoB (cutM mz) = true then cutM mz else []) = R := ⟨_, rfl⟩
      rw [hRV] at CN
      replace hRV := Hd hRV
      replace CN := Hd CN
      clear hI
      go_wp2_with fail
      refine CN.out.mono ?_
      rintro e w9 ⟨a9, c9, rfl, hK9, hb9⟩
      have hSE9 := hSEX.out.below hb9
      go_wp2
      go_ret
      exact ⟨_, a9, c9, rfl, fun m' r e => (by cases hGe.out.symm.trans e), hK9.low hfX.out.size, by rw [hGe.out]; exact hSE9, hfX.out.call hb9⟩
     ·
      have hl7 := Blk.lt hRe7
      have z0 := Blk.cell hRe7 0; have z1 := Blk.cell hRe7 1; have z2 := Blk.cell hRe7 2; have z3 := Blk.cell hRe7 3; have z4 := Blk.cell hRe7 4
      clear hRe7
      go_wp2
      go_roundg 0
      case rel => exact ⟨.inr ⟨k, er, mz, hin.out, hSEX.out, hArrX.out, hPGb.out⟩, hfX.out⟩
      case measure => have := hgk.out; omega
   | ok v0 r =>
    obtain rfl := hvv v0 r rfl
    obtain ⟨p1, hp1, hr1, hR1⟩ := hS1
    have hlt1 := hlen.out v r rfl
    rw [hr1, tl_len] at hlt1
    have CP := Hd (peek_any g mb p1 s 0 0 94 w1 hR1 hp1 hs)
    have hst := nxtB_is (tl s p1) 94 (z := 94) rfl
    obtain ⟨bp, hbp⟩ : ∃ b, nxtB (tl s p1) 94 = b := ⟨_, rfl⟩
    rw [hbp] at CP hst
    replace hbp := Hd hbp; replace hr1 := Hd hr1; replace hlt1 := Hd hlt1; replace hst := Hd hst
    have z0 := Blk.cell hR1 0; have z1 := Blk.cell hR1 1; have z2 := Blk.cell hR1 2; have z3 := Blk.cell hR1 3; have z4 := Blk.cell hR1 4
    have hl := hR1.lt
    clear hvv
    go_wp2_with fail
    refine CP.out.mono ?_
    rintro e w2 ⟨rfl, hb2⟩
    have hR2 := hR1.below hb2
    have hArr2' : ArrZ w2 g5 m := Blk.below' hArr2 hb2
    have hf2' := hf2.call hb2
    clear hArr2 hf2 CP z0 z1 z2 z3 z4 hl hR1 hb2
    have hArr2 := hArr2'; have hf2 := hf2'
    clear hArr2' hf2'
    cases bp
    ·
     have h94 : (tl s p1)[0]? ≠ some 94 := by have := hst.out; simpa using this.symm
     obtain ⟨p2, hpp⟩ : ∃ q, q = p1 := ⟨_, rfl⟩
     subst hpp
     have hp2 := hp1
     have hPW : powG names (tl s p) = .ok (v, 1) (tl s p2) := by have := hpw2.out v r rfl (by rw [hr1.out]; exact h94); rwa [hr1.out] at this
     clear h94 hp1
     -- the exponents are written, in world w2: the power is v, 1, and p2 is the place behind it (hPW : powG names (tl s p) = .ok (v, 1) (tl s p2))
     obtain ⟨hmx, x0, x1⟩ := hM.out.at_ hv64
     have hcx := ArrZ.cell hArr2 hmx
     have hfz := Blk.frozen hArr2 v
     have hgl5 := Blk.lt hArr2
     obtain ⟨x, hx⟩ : ∃ x, expAt m v = x := ⟨_, rfl⟩
     rw [hx] at hcx x0 x1
     have hArr3 := Hd (ArrZ.set_ hArr2 v (x + 1))
     have hf3 := Hd (hf2.setc (g := g5) (i := v) (u := .int .i64 (x + 1)) (.inr hg5w.out))
     have hinz := Hd (hM.out.putz (v := v) (x := x + 1) (by omega) (by omega))
     have hvi : (v : Int) < 64 := by omega
     obtain ⟨mz, hmz⟩ : ∃ z, m.set v (x + 1) = z := ⟨_, rfl⟩
     rw [hmz] at hinz hArr3
     replace hmz := Hd hmz
     clear hArr2 hmx
     have hRe3 := Hd (show RdA (w2.setCell ⟨g5, v, none⟩ (.int .i64 (x + 1))) g s mb p2 0 0 from bF (by have := hg5.out; omega) hR2)
     have z0 := Blk.cell hR2 0; have z1 := Blk.cell hR2 1; have z2 := Blk.cell hR2 2; have z3 := Blk.cell hR2 3; have z4 := Blk.cell hR2 4
     have hl2 := Blk.lt hR2
     clear hR2
     by_cases hbig : 1048576 < x + 1
     ·
      have hPGb := Hd (show PG = .bad (s.size - b0) 4 from hPG.out.trans (proG_big hPW (by rw [hx]; exact hbig)))
      have hin := hinz
      have hpe := hp2
      replace hx := Hd hx
      clear hPW
      go_wp2_with fail
      refine calls_gen (fun W => RdA W g s mb p2 0 0 /\ ArrZ W g5 mz /\ Fg g w W) ⟨hRe3.out, hArr3.out, hf3.out⟩ ?_
      rintro W5 ⟨hR5, hArr5, hf5⟩
      clear hRe3 hArr3 hf3 z0 z1 z2 z3 z4 hcx hfz
      refine (fail_any g mb p2 s 4 (b0 : Int) W5 hR5).mono ?_
      rintro e W6 ⟨rfl, hRe, hff⟩
      have hf6 := hf5.trans hff
      have hArr6 : ArrZ W6 g5 mz := Blk.fr hArr5 hff (by have := hg5.out; omega)
      clear hR5 hArr5 hf5 hff
      go_wp2_with fail
      -- at the question for the star, in world W6, behind an error
      have CP := Hd (peek_any g mb p2 s 4 (b0 : Int) 42 W6 hRe hpe hs)
      obtain ⟨bp, hbp⟩ : ∃ b, nxtB (tl s p2) 42 = b := ⟨_, rfl⟩
      rw [hbp] at CP
      replace hbp := Hd hbp
      refine CP.out.mono ?_
      rintro e w7 ⟨rfl, hb7⟩
      have hRe7 := hRe.below hb7
      have hArrX := Hd (show ArrZ w7 g5 mz from Blk.below' hArr6 hb7)
      have hfX := Hd (hf6.call hb7)
      have hSEX := Hd (show StE w7 g s mb (s.size - b0) 4 from ⟨p2, hp2, by omega, by decide, by rw [show s.size - (s.size - b0) = b0 by omega]; exact hRe7⟩)
      clear CP
      cases bp
      ·
       clear hRe7
       -- the end behind an error
       have hGe := Hd (show GG = .bad (s.size - b0) 4 by rw [<- hGG.out, hPGb.out]; rfl)
       have hI := hArrX.out.reads hin.out.2 hin.out.1
       have CN := normM_any mz (some ⟨g5, 0, none⟩) 64 w7 hI (by rw [hin.out.1]; omega)
       rw [hin.out.1] at CN
       obtain ⟨RV, hRV⟩ : ∃ R, (if monoB (cutM mz) = true then cutM mz else []) = R := ⟨_, rfl⟩
       rw [hRV] at CN
       replace hRV := Hd hRV
       replace CN := Hd CN
       clear hI
       go_wp2_with fail
       refine CN.out.mono ?_
       rintro e w9 ⟨a9, c9, rfl, hK9, hb9⟩
       have hSE9 := hSEX.out.below hb9
       go_wp2
       go_ret
       exact ⟨_, a9, c9, rfl, fun m' r e => (by cases hGe.out.symm.trans e), hK9.low hfX.out.size, by rw [hGe.out]; exact hSE9, hfX.out.call hb9⟩
      ·
       have hl7 := Blk.lt hRe7
       have z0 := Blk.cell hRe7 0; have z1 := Blk.cell hRe7 1; have z2 := Blk.cell hRe7 2; have z3 := Blk.cell hRe7 3; have z4 := Blk.cell hRe7 4
       clear hRe7
       go_wp2
       go_roundg 0
       case rel => exact ⟨.inr ⟨(s.size - b0), 4, mz, hin.out, hSEX.out, hArrX.out, hPGb.out⟩, hfX.out⟩
       case measure => have := hgk.out; omega
     ·
      have hin := Hd (hmz.out ▸ hM.out.put (v := v) (x := x + 1) (by omega) (by omega) : InM mz)
      go_wp2_with fail
      refine calls_gen (fun W => RdA W g s mb p2 0 0 /\ ArrZ W g5 mz /\ Fg g w W) ⟨hRe3.out, hArr3.out, hf3.out⟩ ?_
      rintro W6 ⟨hR6, hArr6, hf6⟩
      clear hRe3 hArr3 hf3 z0 z1 z2 z3 z4 hcx hfz
      have CP := Hd (peek_any g mb p2 s 0 0 42 W6 hR6 hp2 hs)
      have hst := nxtB_is (tl s p2) 42 (z := 42) rfl
      obtain ⟨bp, hbp⟩ : ∃ b, nxtB (tl s p2) 42 = b := ⟨_, rfl⟩
      rw [hbp] at CP hst
      replace hbp := Hd hbp
      refine CP.out.mono ?_
      rintro e w7 ⟨rfl, hb7⟩
      have hR7 := Hd (hR6.below hb7)
      have hArrX := Hd (show ArrZ w7 g5 mz from Blk.below' hArr6 hb7)
      have hfX := Hd (hf6.call hb7)
      clear CP hR6 hArr6 hf6
      cases bp
      ·
       have hPGe : PG = .ok mz (tl s p2) := hPG.out.trans ((proG_end hPW (by rw [hx]; omega) (by simpa using hst.symm)).trans (by rw [hx, hmz.out]))
       replace hx := Hd hx
       clear hst hPW
       -- the end
       have hGe := Hd (show GG = .ok (cutM mz) (tl s p2) by rw [<- hGG.out, hPGe]; rfl)
       have hI := hArrX.out.reads hin.out.z.2 hin.out.1
       have CN := normM_any mz (some ⟨g5, 0, none⟩) 64 w7 hI (by rw [hin.out.1]; omega)
       rw [hin.out.1, if_pos (monoB_cut hin.out)] at CN
       replace CN := Hd CN
       clear hI hPGe
       go_wp2_with fail
       refine CN.out.mono ?_
       rintro e w9 ⟨a9, c9, rfl, hK9, hb9⟩
       have hR9 := hR7.out.below hb9
       go_wp2
       go_ret
       exact ⟨_, a9, c9, rfl, fun m' r e => (by injection hGe.out.symm.trans e), hK9.low hfX.out.size, by rw [hGe.out]; exact ⟨p2, hp2, rfl, hR9⟩, hfX.out.call hb9⟩
      ·
       have h42 : (tl s p2)[0]? = some 42 := by simpa using hst.symm
       have hp2l : p2 < s.size := by
        apply Nat.lt_of_not_le
        intro hle
        rw [tl_end hle] at h42
        cases h42
       have hPGn := Hd (show PG = proG names (s.size - b0) fu mz (tl s (p2 + 1)) from hPG.out.trans ((proG_next hPW (by rw [hx]; omega) h42).trans (by rw [hx, hmz.out, tl_drop])))
       have hpc : ((p2 + 1 : Nat) : Int) = (p2 : Int) + 1 := by omega
       have hRd7 := hR7.out
       have z0 := Blk.cell hRd7 0; have z1 := Blk.cell hRd7 1; have z2 := Blk.cell hRd7 2; have z3 := Blk.cell hRd7 3; have z4 := Blk.cell hRd7 4
       have hl7 := Blk.lt hRd7
       have f1 := Blk.frozen hRd7 1
       have hR8 := Hd (hRd7.set1 (p2 + 1))
       have hArr8 := Hd (show ArrZ (w7.setCell ⟨g, 1, none⟩ (.int .i64 ((p2 + 1 : Nat) : Int))) g5 mz from bF (by have := hg5.out; omega) hArrX.out)
       have hf8 := Hd (hfX.out.setc (g := g) (i := 1) (u := .int .i64 ((p2 + 1 : Nat) : Int)) (.inl rfl))
       unfold RdA at hR8
       unfold ArrZ at hArr8
       rw [hpc] at hR8 hArr8 hf8
       replace hx := Hd hx
       have hlt2 := Hd (show p < p2 + 1 from by have := hlt1.out; omega)
       clear hRd7 hst hPW h42
       go_wp2
       go_roundg (s.size - (p2 + 1) + 1)
       case rel => exact ⟨.inl ⟨p2 + 1, fu, mz, hp2l, by omega, by have := hfu.out; have := hlt2.out; omega, hin.out, by unfold RdA; rw [hpc]; exact hR8.out, hArr8.out, hPGn.out⟩, hf8.out⟩
       case measure => have := hgk.out; have := hlt2.out; omega
    ·
     have h94 : (tl s p1)[0]? = some 94 := by have := hst.out; simpa using this.symm
     have hp1l : p1 < s.size := by
      apply Nat.lt_of_not_le
      intro hle
      rw [tl_end hle] at h94
      cases h94
     have hpwe := hpw3.out v r rfl (by rw [hr1.out]; exact h94)
     rw [hr1.out, tl_drop] at hpwe
     have hpc : ((p1 + 1 : Nat) : Int) = (p1 : Int) + 1 := by omega
     have z0 := Blk.cell hR2 0; have z1 := Blk.cell hR2 1; have z2 := Blk.cell hR2 2; have z3 := Blk.cell hR2 3; have z4 := Blk.cell hR2 4
     have hl := Blk.lt hR2
     have f1 := Blk.frozen hR2 1
     have hR3 := Hd (hR2.set1 (p1 + 1))
     have hArr3 := Hd (show ArrZ (w2.setCell ⟨g, 1, none⟩ (.int .i64 ((p1 + 1 : Nat) : Int))) g5 m from bF (by have := hg5.out; omega) hArr2)
     have hf3 := Hd (hf2.setc (g := g) (i := 1) (u := .int .i64 ((p1 + 1 : Nat) : Int)) (.inl rfl))
     unfold RdA at hR3
     unfold ArrZ at hArr3
     rw [hpc] at hR3 hArr3 hf3
     replace hpwe := Hd hpwe
     clear hR2 hArr2 hf2 h94
     go_wp2_with fail
     refine calls_gen (fun W => RdA W g s mb (p1 + 1) 0 0 /\ ArrZ W g5 m /\ Fg g w W) ⟨by unfold RdA; rw [hpc]; exact hR3.out, hArr3.out, hf3.out⟩ ?_
     clear hR3 hArr3 hf3 z0 z1 z2 z3 z4 f1 hl
     rintro w3 ⟨hR3, hArr3, hf3⟩
     have CE := exponent_any g mb (p1 + 1) s w3 hR3 (by omega) hs (HE.out w3 hf3) hge
     obtain ⟨EG, hEG⟩ : ∃ G, expG (tl s (p1 + 1)) = G := ⟨_, rfl⟩
     have hel := Hd (show ∀ n r, EG = .ok n r -> r.length <= s.size - (p1 + 1) from fun n r e => by have := expG_less (hEG.trans e); rwa [tl_len] at this)
     have hpwe2 := hpwe.out
     rw [hEG] at CE hpwe2
     refine CE.mono ?_
     rintro e w4 ⟨n, rfl, hn, hnn, hS4, hf4⟩
     have hf2 := hf3.trans hf4
     have hArr2 : ArrZ w4 g5 m := Blk.fr hArr3 hf4 (by have := hg5.out; omega)
     replace hEG := Hd hEG
     clear CE hf3 hArr3 hf4 hR3
     cases EG with
     | bad k er =>
      have hSE0 : StE w4 g s mb k er := hS4
      have hpb := Hd (show powG names (tl s p) = .bad k er from hpwe2)
      clear hS4 hnn hpwe2
      -- the exponents are written behind an error, in world w4
      obtain ⟨hmx, x0, x1⟩ := hM.out.at_ hv64
      have hcx := ArrZ.cell hArr2 hmx
      have hfz := Blk.frozen hArr2 v
      have hgl5 := Blk.lt hArr2
      obtain ⟨x, hx⟩ : ∃ x, expAt m v = x := ⟨_, rfl⟩
      rw [hx] at hcx x0 x1
      have hArr3 := Hd (ArrZ.set_ hArr2 v (x + (n : Int)))
      have hf3 := Hd (hf2.setc (g := g5) (i := v) (u := .int .i64 (x + (n : Int))) (.inr hg5w.out))
      have hinz := Hd (hM.out.putz (v := v) (x := x + (n : Int)) (by omega) (by omega))
      have hvi : (v : Int) < 64 := by omega
      obtain ⟨mz, hmz⟩ : ∃ z, m.set v (x + (n : Int)) = z := ⟨_, rfl⟩
      rw [hmz] at hinz hArr3
      replace hmz := Hd hmz
      clear hArr2 hmx
      obtain ⟨pe, hpe, hke, h0e, hRe0⟩ := hSE0
      have hRe3 := Hd (show RdA (w4.setCell ⟨g5, v, none⟩ (.int .i64 (x + (n : Int)))) g s mb pe er ((s.size - k : Nat) : Int) from bF (by have := hg5.out; omega) hRe0)
      have hin := hinz
      have hzE : (er == 0) = false := by rw [beq_eq_false_iff_ne]; exact h0e
      have hzE2 : (er != 0) = true := by rw [bne, hzE]; rfl
      have hPGb := Hd (show PG = .bad k er from hPG.out.trans (proG_bad hpb.out))
      have z0 := Blk.cell hRe0 0; have z1 := Blk.cell hRe0 1; have z2 := Blk.cell hRe0 2; have z3 := Blk.cell hRe0 3; have z4 := Blk.cell hRe0 4
      have hl2 := Blk.lt hRe0
      replace hx := Hd hx; replace h0e := Hd h0e
      clear hRe0
      by_cases hbig : 1048576 < x + (n : Int)
      ·
       go_wp2_with fail
       refine calls_gen (fun W => RdA W g s mb pe er ((s.size - k : Nat) : Int) /\ ArrZ W g5 mz /\ Fg g w W) ⟨hRe3.out, hArr3.out, hf3.out⟩ ?_
       rintro W6 ⟨hRe, hArr6, hf6⟩
       clear hRe3 hArr3 hf3 z0 z1 z2 z3 z4 hcx hfz
       refine (fail_no g mb pe s er ((s.size - k : Nat) : Int) 4 (b0 : Int) W6 hRe h0e.out).mono ?_
       rintro e w' ⟨rfl, rfl⟩
       go_wp2_with fail
       -- at the question for the star, in world W6, behind an error
       have CP := Hd (peek_any g mb pe s er ((s.size - k : Nat) : Int) 42 W6 hRe hpe hs)
       obtain ⟨bp, hbp⟩ : ∃ b, nxtB (tl s pe) 42 = b := ⟨_, rfl⟩
       rw [hbp] at CP
       replace hbp := Hd hbp
       refine CP.out.mono ?_
       rintro e w7 ⟨rfl, hb7⟩
       have hRe7 := hRe.below hb7
       have hArrX := Hd (show ArrZ w7 g5 mz from Blk.below' hArr6 hb7)
       have hfX := Hd (hf6.call hb7)
       have hSEX := Hd (show StE w7 g s mb k er from ⟨pe, hpe, hke, h0e.out, hRe7⟩)
       clear CP
       cases bp
       ·
        clear hRe7
        -- the end behind an error
        have hGe := Hd (show GG = .bad k er by rw [<- hGG.out, hPGb.out]; rfl)
        have hI := hArrX.out.reads hin.out.2 hin.out.1
        have CN := normM_any mz (some ⟨g5, 0, none⟩) 64 w7 hI (by rw [hin.out.1]; omega)
        rw [hin.out.1] at CN
        obtain ⟨RV, hRV⟩ : ∃ R, (if monoB (cutM mz) = true then cutM mz else []) = R := ⟨_, rfl⟩
        rw [hRV] at CN
        replace hRV := Hd hRV
        replace CN := Hd CN
        clear hI
        go_wp2_with fail
        refine CN.out.mono ?_
        rintro e w9 ⟨a9, c9, rfl, hK9, hb9⟩
        have hSE9 := hSEX.out.below hb9
        go_wp2
        go_ret
        exact ⟨_, a9, c9, rfl, fun m' r e => (by cases hGe.out.symm.trans e), hK9.low hfX.out.size, by rw [hGe.out]; exact hSE9, hfX.out.call hb9⟩
       ·
        have hl7 := Blk.lt hRe7
        have z0 := Blk.cell hRe7 0; have z1 := Blk.cell hRe7 1; have z2 := Blk.cell hRe7 2; have z3 := Blk.cell hRe7 3; have z4 := Blk.cell hRe7 4
        clear hRe7
        go_wp2
        go_roundg 0
        case rel => exact ⟨.inr ⟨k, er, mz, hin.out, hSEX.out, hArrX.out, hPGb.out⟩, hfX.out⟩
        case measure => have := hgk.out; omega
      ·
       go_wp2_with fail
       refine calls_gen (fun W => RdA W g s mb pe er ((s.size - k : Nat) : Int) /\ ArrZ W g5 mz /\ Fg g w W) ⟨hRe3.out, hArr3.out, hf3.out⟩ ?_
       rintro W6 ⟨hRe, hArr6, hf6⟩
       clear hRe3 hArr3 hf3 z0 z1 z2 z3 z4 hcx hfz
       -- at the question for the star, in world W6, behind an error
       have CP := Hd (peek_any g mb pe s er ((s.size - k : Nat) : Int) 42 W6 hRe hpe hs)
       obtain ⟨bp, hbp⟩ : ∃ b, nxtB (tl s pe) 42 = b := ⟨_, rfl⟩
       rw [hbp] at CP
       replace hbp := Hd hbp
       refine CP.out.mono ?_
       rintro e w7 ⟨rfl, hb7⟩
       have hRe7 := hRe.below hb7
       have hArrX := Hd (show ArrZ w7 g5 mz from Blk.below' hArr6 hb7)
       have hfX := Hd (hf6.call hb7)
       have hSEX := Hd (show StE w7 g s mb k er from ⟨pe, hpe, hke, h0e.out, hRe7⟩)
       clear CP
       cases bp
       ·
        clear hRe7
        -- the end behind an error
        have hGe := Hd (show GG = .bad k er by rw [<- hGG.out, hPGb.out]; rfl)
        have hI := hArrX.out.reads hin.out.2 hin.out.1
        have CN := normM_any mz (some ⟨g5, 0, none⟩) 64 w7 hI (by rw [hin.out.1]; omega)
        rw [hin.out.1] at CN
        obtain ⟨RV, hRV⟩ : ∃ R, (if monoB (cutM mz) = true then cutM mz else []) = R := ⟨_, rfl⟩
        rw [hRV] at CN
        replace hRV := Hd hRV
        replace CN := Hd CN
        clear hI
        go_wp2_with fail
        refine CN.out.mono ?_
        rintro e w9 ⟨a9, c9, rfl, hK9, hb9⟩
        have hSE9 := hSEX.out.below hb9
        go_wp2
        go_ret
        exact ⟨_, a9, c9, rfl, fun m' r e => (by cases hGe.out.symm.trans e), hK9.low hfX.out.size, by rw [hGe.out]; exact hSE9, hfX.out.call hb9⟩
       ·
        have hl7 := Blk.lt hRe7
        have z0 := Blk.cell hRe7 0; have z1 := Blk.cell hRe7 1; have z2 := Blk.cell hRe7 2; have z3 := Blk.cell hRe7 3; have z4 := Blk.cell hRe7 4
        clear hRe7
        go_wp2
        go_roundg 0
        case rel => exact ⟨.inr ⟨k, er, mz, hin.out, hSEX.out, hArrX.out, hPGb.out⟩, hfX.out⟩
        case measure => have := hgk.out; omega
     | ok n0 r2 =>
      obtain rfl := hnn n0 r2 rfl
      obtain ⟨p2, hp2, hr2, hR2⟩ := hS4
      have hlt2' := Hd (show p < p2 + 1 from by have h1 := hel.out n r2 rfl; rw [hr2, tl_len] at h1; have := hlt1.out; omega)
      have hPW : powG names (tl s p) = .ok (v, (n : Int)) (tl s p2) := by rw [<- hr2]; exact hpwe2
      clear hnn hpwe2 hr2
      -- the exponents are written, in world w4: the power is v, (n : Int), and p2 is the place behind it (hPW : powG names (tl s p) = .ok (v, (n : Int)) (tl s p2))
      obtain ⟨hmx, x0, x1⟩ := hM.out.at_ hv64
      have hcx := ArrZ.cell hArr2 hmx
      have hfz := Blk.frozen hArr2 v
      have hgl5 := Blk.lt hArr2
      obtain ⟨x, hx⟩ : ∃ x, expAt m v = x := ⟨_, rfl⟩
      rw [hx] at hcx x0 x1
      have hArr3 := Hd (ArrZ.set_ hArr2 v (x + (n : Int)))
      have hf3 := Hd (hf2.setc (g := g5) (i := v) (u := .int .i64 (x + (n : Int))) (.inr hg5w.out))
      have hinz := Hd (hM.out.putz (v := v) (x := x + (n : Int)) (by omega) (by omega))
      have hvi : (v : Int) < 64 := by omega
      obtain ⟨mz, hmz⟩ : ∃ z, m.set v (x + (n : Int)) = z := ⟨_, rfl⟩
      rw [hmz] at hinz hArr3
      replace hmz := Hd hmz
      clear hArr2 hmx
      have hRe3 := Hd (show RdA (w4.setCell ⟨g5, v, none⟩ (.int .i64 (x + (n : Int)))) g s mb p2 0 0 from bF (by have := hg5.out; omega) hR2)
      have z0 := Blk.cell hR2 0; have z1 := Blk.cell hR2 1; have z2 := Blk.cell hR2 2; have z3 := Blk.cell hR2 3; have z4 := Blk.cell hR2 4
      have hl2 := Blk.lt hR2
      clear hR2
      by_cases hbig : 1048576 < x + (n : Int)
      ·
       have hPGb := Hd (show PG = .bad (s.size - b0) 4 from hPG.out.trans (proG_big hPW (by rw [hx]; exact hbig)))
       have hin := hinz
       have hpe := hp2
       replace hx := Hd hx
       clear hPW
       go_wp2_with fail
       refine calls_gen (fun W => RdA W g s mb p2 0 0 /\ ArrZ W g5 mz /\ Fg g w W) ⟨hRe3.out, hArr3.out, hf3.out⟩ ?_
       rintro W5 ⟨hR5, hArr5, hf5⟩
       clear hRe3 hArr3 hf3 z0 z1 z2 z3 z4 hcx hfz
       refine (fail_any g mb p2 s 4 (b0 : Int) W5 hR5).mono ?_
       rintro e W6 ⟨rfl, hRe, hff⟩
       have hf6 := hf5.trans hff
       have hArr6 : ArrZ W6 g5 mz := Blk.fr hArr5 hff (by have := hg5.out; omega)
       clear hR5 hArr5 hf5 hff
       go_wp2_with fail
       -- at the question for the star, in world W6, behind an error
       have CP := Hd (peek_any g mb p2 s 4 (b0 : Int) 42 W6 hRe hpe hs)
       obtain ⟨bp, hbp⟩ : ∃ b, nxtB (tl s p2) 42 = b := ⟨_, rfl⟩
       rw [hbp] at CP
       replace hbp := Hd hbp
       refine CP.out.mono ?_
       rintro e w7 ⟨rfl, hb7⟩
       have hRe7 := hRe.below hb7
       have hArrX := Hd (show ArrZ w7 g5 mz from Blk.below' hArr6 hb7)
       have hfX := Hd (hf6.call hb7)
       have hSEX := Hd (show StE w7 g s mb (s.size - b0) 4 from ⟨p2, hp2, by omega, by decide, by rw [show s.size - (s.size - b0) = b0 by omega]; exact hRe7⟩)
       clear CP
       cases bp
       ·
        clear hRe7
        -- the end behind an error
        have hGe := Hd (show GG = .bad (s.size - b0) 4 by rw [<- hGG.out, hPGb.out]; rfl)
        have hI := hArrX.out.reads hin.out.2 hin.out.1
        have CN := normM_any mz (some ⟨g5, 0, none⟩) 64 w7 hI (by rw [hin.out.1]; omega)
        rw [hin.out.1] at CN
        obtain ⟨RV, hRV⟩ : ∃ R, (if monoB (cutM mz) = true then cutM mz else []) = R := ⟨_, rfl⟩
        rw [hRV] at CN
        replace hRV := Hd hRV
        replace CN := Hd CN
        clear hI
        go_wp2_with fail
        refine CN.out.mono ?_
        rintro e w9 ⟨a9, c9, rfl, hK9, hb9⟩
        have hSE9 := hSEX.out.below hb9
        go_wp2
        go_ret
        exact ⟨_, a9, c9, rfl, fun m' r e => (by cases hGe.out.symm.trans e), hK9.low hfX.out.size, by rw [hGe.out]; exact hSE9, hfX.out.call hb9⟩
       ·
        have hl7 := Blk.lt hRe7
        have z0 := Blk.cell hRe7 0; have z1 := Blk.cell hRe7 1; have z2 := Blk.cell hRe7 2; have z3 := Blk.cell hRe7 3; have z4 := Blk.cell hRe7 4
        clear hRe7
        go_wp2
        go_roundg 0
        case rel => exact ⟨.inr ⟨(s.size - b0), 4, mz, hin.out, hSEX.out, hArrX.out, hPGb.out⟩, hfX.out⟩
        case measure => have := hgk.out; omega
      ·
       have hin := Hd (hmz.out ▸ hM.out.put (v := v) (x := x + (n : Int)) (by omega) (by omega) : InM mz)
       go_wp2_with fail
       refine calls_gen (fun W => RdA W g s mb p2 0 0 /\ ArrZ W g5 mz /\ Fg g w W) ⟨hRe3.out, hArr3.out, hf3.out⟩ ?_
       rintro W6 ⟨hR6, hArr6, hf6⟩
       clear hRe3 hArr3 hf3 z0 z1 z2 z3 z4 hcx hfz
       have CP := Hd (peek_any g mb p2 s 0 0 42 W6 hR6 hp2 hs)
       have hst := nxtB_is (tl s p2) 42 (z := 42) rfl
       obtain ⟨bp, hbp⟩ : ∃ b, nxtB (tl s p2) 42 = b := ⟨_, rfl⟩
       rw [hbp] at CP hst
       replace hbp := Hd hbp
       refine CP.out.mono ?_
       rintro e w7 ⟨rfl, hb7⟩
       have hR7 := Hd (hR6.below hb7)
       have hArrX := Hd (show ArrZ w7 g5 mz from Blk.below' hArr6 hb7)
       have hfX := Hd (hf6.call hb7)
       clear CP hR6 hArr6 hf6
       cases bp
       ·
        have hPGe : PG = .ok mz (tl s p2) := hPG.out.trans ((proG_end hPW (by rw [hx]; omega) (by simpa using hst.symm)).trans (by rw [hx, hmz.out]))
        replace hx := Hd hx
        clear hst hPW
        -- the end
        have hGe := Hd (show GG = .ok (cutM mz) (tl s p2) by rw [<- hGG.out, hPGe]; rfl)
        have hI := hArrX.out.reads hin.out.z.2 hin.out.1
        have CN := normM_any mz (some ⟨g5, 0, none⟩) 64 w7 hI (by rw [hin.out.1]; omega)
        rw [hin.out.1, if_pos (monoB_cut hin.out)] at CN
        replace CN := Hd CN
        clear hI hPGe
        go_wp2_with fail
        refine CN.out.mono ?_
        rintro e w9 ⟨a9, c9, rfl, hK9, hb9⟩
        have hR9 := hR7.out.below hb9
        go_wp2
        go_ret
        exact ⟨_, a9, c9, rfl, fun m' r e => (by injection hGe.out.symm.trans e), hK9.low hfX.out.size, by rw [hGe.out]; exact ⟨p2, hp2, rfl, hR9⟩, hfX.out.call hb9⟩
       ·
        have h42 : (tl s p2)[0]? = some 42 := by simpa using hst.symm
        have hp2l : p2 < s.size := by
         apply Nat.lt_of_not_le
         intro hle
         rw [tl_end hle] at h42
         cases h42
        have hPGn := Hd (show PG = proG names (s.size - b0) fu mz (tl s (p2 + 1)) from hPG.out.trans ((proG_next hPW (by rw [hx]; omega) h42).trans (by rw [hx, hmz.out, tl_drop])))
        have hpc : ((p2 + 1 : Nat) : Int) = (p2 : Int) + 1 := by omega
        have hRd7 := hR7.out
        have z0 := Blk.cell hRd7 0; have z1 := Blk.cell hRd7 1; have z2 := Blk.cell hRd7 2; have z3 := Blk.cell hRd7 3; have z4 := Blk.cell hRd7 4
        have hl7 := Blk.lt hRd7
        have f1 := Blk.frozen hRd7 1
        have hR8 := Hd (hRd7.set1 (p2 + 1))
        have hArr8 := Hd (show ArrZ (w7.setCell ⟨g, 1, none⟩ (.int .i64 ((p2 + 1 : Nat) : Int))) g5 mz from bF (by have := hg5.out; omega) hArrX.out)
        have hf8 := Hd (hfX.out.setc (g := g) (i := 1) (u := .int .i64 ((p2 + 1 : Nat) : Int)) (.inl rfl))
        unfold RdA at hR8
        unfold ArrZ at hArr8
        rw [hpc] at hR8 hArr8 hf8
        replace hx := Hd hx
        have hlt2 := Hd (show p < p2 + 1 from hlt2'.out)
        clear hRd7 hst hPW h42
        go_wp2
        go_roundg (s.size - (p2 + 1) + 1)
        case rel => exact ⟨.inl ⟨p2 + 1, fu, mz, hp2l, by omega, by have := hfu.out; have := hlt2.out; omega, hin.out, by unfold RdA; rw [hpc]; exact hR8.out, hArr8.out, hPGn.out⟩, hf8.out⟩
        case measure => have := hgk.out; have := hlt2.out; omega
  ·
   obtain ⟨pe, hpe, hke, h0e, hRe⟩ := hSE
   have hzE : (er == 0) = false := by rw [beq_eq_false_iff_ne]; exact h0e
   have hPGb := Hd hPG
   have hSEX := Hd (show StE wr g s mb k er from ⟨pe, hpe, hke, h0e, hRe⟩)
   have hArrX := Hd hArr
   have hfX := Hd hf
   replace hin := Hd hin; replace h0e := Hd h0e
   have z0 := Blk.cell hRe 0; have z1 := Blk.cell hRe 1; have z2 := Blk.cell hRe 2; have z3 := Blk.cell hRe 3; have z4 := Blk.cell hRe 4
   have hl := hRe.lt
   clear hRe hArr hPG hf
   -- the end behind an error
   have hGe := Hd (show GG = .bad k er by rw [<- hGG.out, hPGb.out]; rfl)
   have hI := hArrX.out.reads hin.out.2 hin.out.1
   have CN := normM_any mz (some ⟨g5, 0, none⟩) 64 wr hI (by rw [hin.out.1]; omega)
   rw [hin.out.1] at CN
   obtain ⟨RV, hRV⟩ : ∃ R, (if monoB (cutM mz) = true then cutM mz else []) = R := ⟨_, rfl⟩
   rw [hRV] at CN
   replace hRV := Hd hRV
   replace CN := Hd CN
   clear hI
   go_wp2_with fail
   refine CN.out.mono ?_
   rintro e w9 ⟨a9, c9, rfl, hK9, hb9⟩
   have hSE9 := hSEX.out.below hb9
   go_wp2
   go_ret
   exact ⟨_, a9, c9, rfl, fun m' r e => (by cases hGe.out.symm.trans e), hK9.low hfX.out.size, by rw [hGe.out]; exact hSE9, hfX.out.call hb9⟩
end Go.Proofs.YtkjnkpkagcboeaaGreatDoor
namespace Go.Proofs.YtkjnkpkagcboeaaGreatDoor
def lmb (m i : Nat) : Int := ((m / 65536 ^ i % 65536 : Nat) : Int)
theorem limbs_get : ∀ (i m : Nat), i < (limbs m).length -> (limbs m)[i]? = some (lmb m i)
 | 0, m, h => by
  have h0 : m ≠ 0 := fun e => by subst e; rw [limbs_zero] at h; simp at h
  rw [limbs_pos h0]; simp [lmb]
 | i + 1, m, h => by
  have h0 : m ≠ 0 := fun e => by subst e; rw [limbs_zero] at h; simp at h
  rw [limbs_pos h0] at h ⊢
  rw [List.getElem?_cons_succ, limbs_get i (m / 65536) (by simpa using h)]
  unfold lmb
  rw [Nat.div_div_eq_div_mul, Nat.pow_succ, Nat.mul_comm]
theorem limbs_row (m : Nat) : limbs m = (List.range (limbs m).length).map (lmb m) := by
 apply List.ext_getElem (by simp)
 intro i h1 h2
 have := limbs_get i m h1
 rw [List.getElem?_eq_getElem h1] at this
 injection this with this
 rw [this]; simp
def tenRow (n d k : Nat) : List Int := (List.range k).map (lmb (10 * n + d)) ++ (limbs n).drop k
def tenC (n d k : Nat) : Nat := (10 * (n % 65536 ^ k) + d) / 65536 ^ k
theorem tenRow_zero (n d : Nat) : tenRow n d 0 = limbs n := by simp [tenRow]
theorem tenC_zero (n d : Nat) : tenC n d 0 = d := by simp [tenC, Nat.mod_one]
theorem tenRow_len {n d k : Nat} (h : k <= (limbs n).length) : (tenRow n d k).length = (limbs n).length := by unfold tenRow; simp; omega
theorem tenRow_at {n d k : Nat} (h : k < (limbs n).length) : (tenRow n d k)[k]? = some (lmb n k) := by
 unfold tenRow
 rw [List.getElem?_append_right (by simp)]
 simp only [List.length_map, List.length_range, Nat.sub_self, List.getElem?_drop, Nat.add_zero]
 exact limbs_get k n h
theorem ten_sum (n d k : Nat) : tenC n d k + 10 * (n / 65536 ^ k % 65536) = (10 * (n % 65536 ^ (k + 1)) + d) / 65536 ^ k := by
 have hp : 0 < 65536 ^ k := Nat.pow_pos (by decide)
 unfold tenC
 rw [Nat.mod_pow_succ, Nat.mul_add, show 10 * (65536 ^ k * (n / 65536 ^ k % 65536)) = 65536 ^ k * (10 * (n / 65536 ^ k % 65536)) by rw [Nat.mul_left_comm],
  show 10 * (n % 65536 ^ k) + 65536 ^ k * (10 * (n / 65536 ^ k % 65536)) + d = (10 * (n % 65536 ^ k) + d) + 65536 ^ k * (10 * (n / 65536 ^ k % 65536)) by omega, Nat.add_mul_div_left _ _ hp]
theorem tenC_succ (n d k : Nat) : (tenC n d k + 10 * (n / 65536 ^ k % 65536)) / 65536 = tenC n d (k + 1) := by
 rw [ten_sum, Nat.div_div_eq_div_mul, <- Nat.pow_succ]; rfl
theorem ten_low (n d k : Nat) : (tenC n d k + 10 * (n / 65536 ^ k % 65536)) % 65536 = (10 * n + d) / 65536 ^ k % 65536 := by
 have hp : 0 < 65536 ^ k := Nat.pow_pos (by decide)
 rw [ten_sum]
 have e : 10 * n + d = (10 * (n % 65536 ^ (k + 1)) + d) + 65536 ^ k * (65536 * (10 * (n / 65536 ^ (k + 1)))) := by
  have h1 := Nat.mod_add_div n (65536 ^ (k + 1))
  have h2 : 65536 ^ k * (65536 * (10 * (n / 65536 ^ (k + 1)))) = 10 * (65536 ^ (k + 1) * (n / 65536 ^ (k + 1))) := by
   rw [Nat.pow_succ, <- Nat.mul_assoc, <- Nat.mul_assoc, <- Nat.mul_assoc, Nat.mul_comm (65536 ^ k * 65536) 10, Nat.mul_assoc 10]
  omega
 rw [e, Nat.add_mul_div_left _ _ hp, Nat.add_mul_mod_self_left]
theorem tenRow_set {n d k : Nat} (h : k < (limbs n).length) : (tenRow n d k).set k (lmb (10 * n + d) k) = tenRow n d (k + 1) := by
 unfold tenRow
 rw [List.set_append, if_neg (by simp), List.range_succ, List.map_append, List.append_assoc]
 congr 1
 simp only [List.length_map, List.length_range, Nat.sub_self]
 rw [List.drop_eq_getElem_cons h]
 rfl
theorem tenC_le {n d k : Nat} (hd : d <= 9) : tenC n d k <= 9 := by
 unfold tenC
 have hp : 0 < 65536 ^ k := Nat.pow_pos (by decide)
 have h := Nat.mod_lt n hp
 refine Nat.le_of_lt_succ ((Nat.div_lt_iff_lt_mul hp).2 ?_)
 omega
theorem ten_end {n d : Nat} (hd : d <= 9) : limbs (10 * n + d) = if 0 < tenC n d (limbs n).length then tenRow n d (limbs n).length ++ [(tenC n d (limbs n).length : Int)] else tenRow n d (limbs n).length := by
 have hn := lt_pow_limbs n
 have hc := tenC_le (n := n) (k := (limbs n).length) hd
 have hmono := limbs_len_mono (show n <= 10 * n + d by omega)
 have he : tenC n d (limbs n).length = (10 * n + d) / 65536 ^ (limbs n).length := by unfold tenC; rw [Nat.mod_eq_of_lt hn]
 have hrow : tenRow n d (limbs n).length = (List.range (limbs n).length).map (lmb (10 * n + d)) := by unfold tenRow; simp
 have hp : 0 < 65536 ^ (limbs n).length := Nat.pow_pos (by decide)
 split
 ·
  next h =>
  have hup : (limbs (10 * n + d)).length <= (limbs n).length + 1 := limbs_len_le (by
   rw [Nat.pow_succ]
   have : (10 * n + d) / 65536 ^ (limbs n).length < 65536 := by omega
   have := (Nat.div_lt_iff_lt_mul hp).1 this
   omega)
  have hlo : (limbs n).length < (limbs (10 * n + d)).length := by
   apply Nat.lt_of_not_le
   intro hle
   have h1 := lt_pow_limbs (10 * n + d)
   have h2 : 65536 ^ (limbs (10 * n + d)).length <= 65536 ^ (limbs n).length := Nat.pow_le_pow_right (by decide) hle
   rw [he, Nat.div_eq_of_lt (ltl h1 h2)] at h
   exact absurd h (Nat.lt_irrefl 0)
  rw [limbs_row (10 * n + d), show (limbs (10 * n + d)).length = (limbs n).length + 1 by omega, List.range_succ, List.map_append, hrow]
  congr 1
  show [lmb (10 * n + d) (limbs n).length] = _
  unfold lmb
  rw [<- he, Nat.mod_eq_of_lt (by omega)]
 ·
  next h =>
  have h0 : (10 * n + d) / 65536 ^ (limbs n).length = 0 := by omega
  have hlt : 10 * n + d < 65536 ^ (limbs n).length := by
   rcases Nat.div_eq_zero_iff.1 h0 with h1 | h1
   · omega
   · exact h1
  have := limbs_len_le hlt
  rw [limbs_row (10 * n + d), show (limbs (10 * n + d)).length = (limbs n).length by omega, hrow]
end Go.Proofs.YtkjnkpkagcboeaaGreatDoor
