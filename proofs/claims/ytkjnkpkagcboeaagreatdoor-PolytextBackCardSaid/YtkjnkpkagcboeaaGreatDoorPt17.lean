/- Walk: a name read from a text (the program). -/
import Derived.Test.YtkjnkpkagcboeaaGreatDoorPt1
import Derived.Test.YtkjnkpkagcboeaaGreatDoorPt16
import Derived.Test.YtkjnkpkagcboeaaGreatDoorPt15
import Derived.Test.YtkjnkpkagcboeaaGreatDoorPt8
import Derived.Test.YtkjnkpkagcboeaaGreatDoorPt4
set_option linter.all false
set_option maxRecDepth 100000
set_option maxHeartbeats 4000000
namespace Go.Proofs.YtkjnkpkagcboeaaGreatDoor
open Go.RowKit
def tl (s : ByteArray) (a : Nat) : List UInt8 := s.data.toList.drop a
theorem tl_len (s : ByteArray) (a : Nat) : (tl s a).length = s.size - a := by simp [tl]
theorem tl_at {s : ByteArray} {a : Nat} (h : a < s.size) : tl s a = s[a] :: tl s (a + 1) := by
 unfold tl
 rw [List.drop_eq_getElem_cons (by simpa using h)]
 rfl
theorem tl_end {s : ByteArray} {a : Nat} (h : s.size <= a) : tl s a = [] := List.eq_nil_of_length_eq_zero (by rw [tl_len]; omega)
theorem tl_drop (s : ByteArray) (a k : Nat) : (tl s a).drop k = tl s (a + k) := by unfold tl; rw [List.drop_drop]
theorem tl_all (s : ByteArray) : tl s 0 = s.data.toList := by simp [tl]
def nxtB (l : List UInt8) (c : Int) : Bool := match l[0]? with
 | some x => decide ((x.toNat : Int) = c)
 | none => false
theorem nxtB_is (l : List UInt8) (c : UInt8) {z : Int} (hz : (c.toNat : Int) = z) : nxtB l z = decide (l[0]? = some c) := by
 subst hz
 unfold nxtB
 cases l[0]? with
 | none => simp
 | some x =>
  simp only [Option.some.injEq]
  rw [decide_eq_decide]
  constructor
  · intro h; exact UInt8.toNat_inj.1 (by omega)
  · intro h; rw [h]
theorem nxtB_at {s : ByteArray} {a : Nat} (h : a < s.size) (c : Int) : nxtB (tl s a) c = decide (((s[a]'h).toNat : Int) = c) := by rw [tl_at h]; rfl
theorem nxtB_end {s : ByteArray} {a : Nat} (h : s.size <= a) (c : Int) : nxtB (tl s a) c = false := by rw [tl_end h]; rfl
def RdA (w : World) (g : Nat) (s : ByteArray) (mb a : Nat) (e b : Int) : Prop := Blk w g 73 #[.string s, .int .i64 a, .map (some mb), .int .i64 e, .int .i64 b]
def StR (w : World) (g : Nat) (s : ByteArray) (mb : Nat) (l : List UInt8) : Prop := ∃ a : Nat, a <= s.size /\ l = tl s a /\ RdA w g s mb a 0 0
def StE (w : World) (g : Nat) (s : ByteArray) (mb : Nat) (k : Nat) (e : Int) : Prop := ∃ a : Nat, a <= s.size /\ k <= s.size /\ e ≠ 0 /\ RdA w g s mb a e ((s.size - k : Nat) : Int)
def StG {α : Type} (w : World) (g : Nat) (s : ByteArray) (mb : Nat) (G : Got α) : Prop := match G with
 | .ok _ r => StR w g s mb r
 | .bad k e => StE w g s mb k e
section
variable {w w' : World} {g mb a : Nat} {s : ByteArray} {e b : Int}
theorem RdA.below (h : RdA w g s mb a e b) (hb : Below w.heap.size w w') : RdA w' g s mb a e b := Blk.below' h hb
theorem RdA.lt (h : RdA w g s mb a e b) : g < w.heap.size := Blk.lt h
theorem RdA.set1 (h : RdA w g s mb a e b) (a' : Nat) : RdA (w.setCell ⟨g, 1, none⟩ (.int .i64 a')) g s mb a' e b := bS h rfl
theorem RdA.set34 (h : RdA w g s mb a e b) (e' b' : Int) : RdA ((w.setCell ⟨g, 3, none⟩ (.int .i64 e')).setCell ⟨g, 4, none⟩ (.int .i64 b')) g s mb a e' b' := bS (bS h rfl) rfl
theorem StE.below {k : Nat} {e : Int} (h : StE w g s mb k e) (hb : Below w.heap.size w w') : StE w' g s mb k e := by obtain ⟨a, h1, h2, h3, h4⟩ := h; exact ⟨a, h1, h2, h3, h4.below hb⟩
end
abbrev Fg (g : Nat) (w w' : World) : Prop := Fr (fun b => b = g) w w'
theorem peek_any (g mb a : Nat) (s : ByteArray) (e b c : Int) (w : World) (h : RdA w g s mb a e b) (ha : a <= s.size) (hs : s.size <= 281474976710656) :
  Calls Tryz.prog 69 #[.pointer (some ⟨g, 0, none⟩), .int .u8 c] w fun e w' => e = .returned (.bool (nxtB (tl s a) c)) /\ Below w.heap.size w w' := by
 have z0 := Blk.cell h 0; have z1 := Blk.cell h 1; have z2 := Blk.cell h 2; have z3 := Blk.cell h 3; have z4 := Blk.cell h 4
 have hl := h.lt
 have hbd : Below w.heap.size w w.drew := brf.drew
 by_cases hlt : a < s.size
 ·
  have hn := nxtB_at hlt c
  rw [hn]
  clear hn h
  obtain ⟨y, hy⟩ : ∃ y : Nat, (s[a]'hlt).toNat = y := ⟨_, rfl⟩
  rw [hy]
  by_cases hyc : (y : Int) = c
  ·
   have hyb : ((y : Int) == c) = true := by simpa using hyc
   rw [decide_eq_true hyc]
   clear hyc
   go_enter Tryz.func69, Tryz.ntmps69
   go_wp2
   refine wp_region_mix (S := (fun x => x = w.drew)) [(0, .q), (1, .q), (2, .q), (3, .q), (4, .q), (5, .q), (6, .q), (7, .q), (8, .q), (9, .q), (10, .q), (11, .q), (12, .q), (13, .q), (14, .q), (15, .q), (16, .q), (17, .q), (18, .q), (19, .q), (20, .q), (21, .p), (22, .p), (23, .p)] (by kernel_rfl) (by kernel_rfl) (by kernel_rfl) (fun d _ _ _ _ h => by cases d <;> exact h) (rfl) ?_
   iterate 21 (refine wpMix_q rfl rfl (fun K hK => ?_); apply Exists.intro; refine ⟨fun w' hw' => ?_, ?_⟩; (focus (go_simp; try rfl)); go_simp; refine hK _ _ ?_; clear hK K)
   iterate 3 (refine wpMix_p rfl rfl (fun K hK => ?_); apply Exists.intro; refine ⟨fun w' => ?_, ?_⟩; (focus (go_simp; try rfl)); go_simp; refine hK _ _ ?_; clear hK K)
   refine wpMix_nil ?_
   go_wp2
   go_ret
   exact ⟨rfl, hbd⟩
  ·
   have hyb : ((y : Int) == c) = false := by simpa using hyc
   rw [decide_eq_false hyc]
   clear hyc
   go_enter Tryz.func69, Tryz.ntmps69
   go_wp2
   refine wp_region_mix (S := (fun x => x = w.drew)) [(0, .q), (1, .q), (2, .q), (3, .q), (4, .q), (5, .q), (6, .q), (7, .q), (8, .q), (9, .q), (10, .q), (11, .q), (12, .q), (13, .q), (14, .q), (15, .q), (16, .q), (17, .q), (18, .q), (19, .q), (20, .q), (21, .p), (22, .p), (23, .p)] (by kernel_rfl) (by kernel_rfl) (by kernel_rfl) (fun d _ _ _ _ h => by cases d <;> exact h) (rfl) ?_
   iterate 21 (refine wpMix_q rfl rfl (fun K hK => ?_); apply Exists.intro; refine ⟨fun w' hw' => ?_, ?_⟩; (focus (go_simp; try rfl)); go_simp; refine hK _ _ ?_; clear hK K)
   iterate 3 (refine wpMix_p rfl rfl (fun K hK => ?_); apply Exists.intro; refine ⟨fun w' => ?_, ?_⟩; (focus (go_simp; try rfl)); go_simp; refine hK _ _ ?_; clear hK K)
   refine wpMix_nil ?_
   go_wp2
   go_ret
   exact ⟨rfl, hbd⟩
 ·
  rw [nxtB_end (by omega)]
  clear h
  go_enter Tryz.func69, Tryz.ntmps69
  go_wp2
  refine wp_region_mix (S := (fun x => x = w.drew)) [(0, .q), (1, .q), (2, .q), (3, .q), (4, .q), (5, .q), (6, .q), (7, .q), (8, .q), (9, .q), (10, .q), (11, .q), (12, .q), (13, .q), (14, .q), (15, .q), (16, .q), (17, .q), (18, .q), (19, .q), (20, .q), (21, .p), (22, .p), (23, .p)] (by kernel_rfl) (by kernel_rfl) (by kernel_rfl) (fun d _ _ _ _ h => by cases d <;> exact h) (rfl) ?_
  iterate 11 (refine wpMix_q rfl rfl (fun K hK => ?_); apply Exists.intro; refine ⟨fun w' hw' => ?_, ?_⟩; (focus (go_simp; try rfl)); go_simp; refine hK _ _ ?_; clear hK K)
  iterate 11 (refine wpMix_skip rfl rfl (fun K hK => ?_); go_simp; refine hK _ _ ?_; clear hK K)
  iterate 2 (refine wpMix_p rfl rfl (fun K hK => ?_); apply Exists.intro; refine ⟨fun w' => ?_, ?_⟩; (focus (go_simp; try rfl)); go_simp; refine hK _ _ ?_; clear hK K)
  refine wpMix_nil ?_
  go_wp2
  go_ret
  exact ⟨rfl, hbd⟩
theorem fail_any (g mb a : Nat) (s : ByteArray) (e x : Int) (w : World) (h : RdA w g s mb a 0 0) :
  Calls Tryz.prog 70 #[.pointer (some ⟨g, 0, none⟩), .int .i64 x, .int .i64 e] w fun u w' => u = .returned (.tuple #[]) /\ RdA w' g s mb a e x /\ Fg g w w' := by
 have z0 := Blk.cell h 0; have z1 := Blk.cell h 1; have z2 := Blk.cell h 2; have z3 := Blk.cell h 3; have z4 := Blk.cell h 4
 have hl := h.lt
 have f3 := Blk.frozen h 3; have f4 := Blk.frozen h 4
 have hF := Hd (h.set34 e x)
 have hG := Hd (((Fr.refl (fun b => b = g) w).setc (g := g) (i := 3) (u := .int .i64 e) (.inl rfl)).setc (g := g) (i := 4) (u := .int .i64 x) (.inl rfl))
 clear h
 go_enter Tryz.func70, Tryz.ntmps70
 go_wp2
 first | go_end0 | ((try simp only [Exit.inBlock, Exit.then]); refine bodyPost_ret (results_none rfl _ _ _) rfl ?_)
 exact ⟨rfl, hF.out, hG.out⟩
theorem fail_no (g mb a : Nat) (s : ByteArray) (e0 b e x : Int) (w : World) (h : RdA w g s mb a e0 b) (h0 : e0 ≠ 0) :
  Calls Tryz.prog 70 #[.pointer (some ⟨g, 0, none⟩), .int .i64 x, .int .i64 e] w fun u w' => u = .returned (.tuple #[]) /\ w = w' := by
 have z0 := Blk.cell h 0; have z1 := Blk.cell h 1; have z2 := Blk.cell h 2; have z3 := Blk.cell h 3; have z4 := Blk.cell h 4
 have hl := h.lt
 have hz : (e0 == 0) = false := by simpa using h0
 clear h
 go_enter Tryz.func70, Tryz.ntmps70
 go_wp2
 first | go_end0 | ((try simp only [Exit.inBlock, Exit.then]); refine bodyPost_ret (results_none rfl _ _ _) rfl ?_)
 exact ⟨rfl, rfl⟩
theorem refuse_any (g mb a : Nat) (s : ByteArray) (w : World) (h : RdA w g s mb a 0 0) (ha : a <= s.size) (hs : s.size <= 281474976710656) :
  Calls Tryz.prog 121 #[.pointer (some ⟨g, 0, none⟩)] w fun u w' => u = .returned (.tuple #[]) /\ StG w' g s mb (lost (α := Unit) (tl s a)) /\ Fg g w w' := by
 have z0 := Blk.cell h 0; have z1 := Blk.cell h 1; have z2 := Blk.cell h 2; have z3 := Blk.cell h 3; have z4 := Blk.cell h 4
 have hl := h.lt
 have C := fun e => fail_any g mb a s e (a : Int) w.drew h
 have hbd : Fg g w w.drew := Fr.below (brf.drew)
 replace C := Hd C; replace hbd := Hd hbd
 clear h
 by_cases hlt : a = s.size
 ·
  have hb : ((a : Int) == (s.size : Int)) = true := by rw [beq_iff_eq]; omega
  have hL : lost (α := Unit) (tl s a) = .bad 0 10 := by rw [tl_end (by omega)]; rfl
  rw [hL]
  replace hlt := Hd hlt
  go_enter Tryz.func121, Tryz.ntmps121
  go_wp2
  refine wp_region_mix (S := (fun x => x = w.drew)) [(0, .q), (1, .q), (2, .q), (3, .q), (4, .q), (5, .q), (6, .q), (7, .q), (8, .q), (9, .p)] (by kernel_rfl) (by kernel_rfl) (by kernel_rfl) (fun d _ _ _ _ h => by cases d <;> exact h) (rfl) ?_
  iterate 9 (refine wpMix_q rfl rfl (fun K hK => ?_); apply Exists.intro; refine ⟨fun w' hw' => ?_, ?_⟩; (focus (go_simp; try rfl)); go_simp; refine hK _ _ ?_; clear hK K)
  iterate 1 (refine wpMix_p rfl rfl (fun K hK => ?_); apply Exists.intro; refine ⟨fun w' => ?_, ?_⟩; (focus (go_simp; try rfl)); go_simp; refine hK _ _ ?_; clear hK K)
  refine wpMix_nil ?_
  go_wp2_with fail
  refine (C.out 10).mono ?_
  rintro e w1 ⟨rfl, h1, hf⟩
  go_wp2
  first | go_end0 | ((try simp only [Exit.inBlock, Exit.then]); refine bodyPost_ret (results_none rfl _ _ _) rfl ?_)
  exact ⟨rfl, ⟨a, ha, by omega, by decide, by rw [Nat.sub_zero, <- hlt.out]; exact h1⟩, hbd.out.trans hf⟩
 ·
  have hb : ((a : Int) == (s.size : Int)) = false := by rw [beq_eq_false_iff_ne]; omega
  have hL : lost (α := Unit) (tl s a) = .bad (s.size - a) 9 := by unfold lost; rw [if_neg (by rw [tl_len]; omega), tl_len]
  rw [hL]
  replace hlt := Hd hlt
  go_enter Tryz.func121, Tryz.ntmps121
  go_wp2
  refine wp_region_mix (S := (fun x => x = w.drew)) [(0, .q), (1, .q), (2, .q), (3, .q), (4, .q), (5, .q), (6, .q), (7, .q), (8, .q), (9, .p)] (by kernel_rfl) (by kernel_rfl) (by kernel_rfl) (fun d _ _ _ _ h => by cases d <;> exact h) (rfl) ?_
  iterate 9 (refine wpMix_q rfl rfl (fun K hK => ?_); apply Exists.intro; refine ⟨fun w' hw' => ?_, ?_⟩; (focus (go_simp; try rfl)); go_simp; refine hK _ _ ?_; clear hK K)
  iterate 1 (refine wpMix_p rfl rfl (fun K hK => ?_); apply Exists.intro; refine ⟨fun w' => ?_, ?_⟩; (focus (go_simp; try rfl)); go_simp; refine hK _ _ ?_; clear hK K)
  refine wpMix_nil ?_
  go_wp2_with fail
  refine (C.out 9).mono ?_
  rintro e w1 ⟨rfl, h1, hf⟩
  go_wp2
  first | go_end0 | ((try simp only [Exit.inBlock, Exit.then]); refine bodyPost_ret (results_none rfl _ _ _) rfl ?_)
  exact ⟨rfl, ⟨a, ha, by omega, by decide, by rw [show s.size - (s.size - a) = a by omega]; exact h1⟩, hbd.out.trans hf⟩
theorem lost_unit {α β : Type} {w : World} {g mb : Nat} {s : ByteArray} {l : List UInt8} (h : StG w g s mb (lost (α := α) l)) : StG w g s mb (lost (α := β) l) := by
 unfold lost at h ⊢
 split <;> simp_all [StG]
theorem take_any (g mb a : Nat) (s : ByteArray) (c : UInt8) (z : Int) (hz : (c.toNat : Int) = z) (w : World) (h : RdA w g s mb a 0 0) (ha : a <= s.size) (hs : s.size <= 281474976710656) :
  Calls Tryz.prog 73 #[.pointer (some ⟨g, 0, none⟩), .int .u8 z] w fun u w' => u = .returned (.tuple #[]) /\ StG w' g s mb (eatG c (tl s a)) /\ Fg g w w' := by
 have z0 := Blk.cell h 0; have z1 := Blk.cell h 1; have z2 := Blk.cell h 2; have z3 := Blk.cell h 3; have z4 := Blk.cell h 4
 have hl := h.lt
 have f1 := Blk.frozen h 1
 have CP := peek_any g mb a s 0 0 z w h ha hs
 have CR := fun W (hW : Below w.heap.size w W) => refuse_any g mb a s W (h.below hW) ha hs
 have hne := nxtB_is (tl s a) c hz
 replace CR := Hd CR
 obtain ⟨bp, hbp⟩ : ∃ b, nxtB (tl s a) z = b := ⟨_, rfl⟩
 rw [hbp] at CP hne
 replace CP := Hd CP
 cases bp
 ·
  have hE : eatG c (tl s a) = lost (tl s a) := by unfold eatG; rw [if_neg (by simpa using hne.symm)]
  rw [hE]
  clear h hbp hne hE hz
  go_enter Tryz.func73, Tryz.ntmps73
  go_wp2_with fail
  refine CP.out.mono ?_
  rintro e w0 ⟨rfl, hb0⟩
  go_wp2_with fail
  refine (CR.out w0 hb0).mono ?_
  rintro e w1 ⟨rfl, h1, hf⟩
  go_wp2
  first | go_end0 | ((try simp only [Exit.inBlock, Exit.then]); refine bodyPost_ret (results_none rfl _ _ _) rfl ?_)
  exact ⟨rfl, lost_unit h1, (Fr.below hb0).trans hf⟩
 ·
  have hn0 : (tl s a)[0]? = some c := by simpa using hne.symm
  have hlt : a < s.size := by
   apply Nat.lt_of_not_le
   intro hle
   rw [tl_end hle] at hn0
   cases hn0
  have hE : eatG c (tl s a) = .ok () (tl s (a + 1)) := by unfold eatG; rw [if_pos hn0, tl_drop]
  rw [hE]
  have hcast : ((a + 1 : Nat) : Int) = (a : Int) + 1 := by omega
  have HH := Hd h
  clear h hbp hne hE hz hn0 z0 z1 z2 z4 f1 hl CR
  go_enter Tryz.func73, Tryz.ntmps73
  go_wp2_with fail
  refine CP.out.mono ?_
  rintro e w1 ⟨rfl, hb1⟩
  have h1 := HH.out.below hb1
  have z0 := Blk.cell h1 0; have z1 := Blk.cell h1 1; have z2 := Blk.cell h1 2; have z3 := Blk.cell h1 3; have z4 := Blk.cell h1 4
  have hl := h1.lt
  have f1 := Blk.frozen h1 1
  have hF := Hd (h1.set1 (a + 1))
  have hG := Hd ((Fr.below (Y := fun b => b = g) hb1).setc (g := g) (i := 1) (u := .int .i64 ((a + 1 : Nat) : Int)) (.inl rfl))
  rw [hcast] at hG
  unfold RdA at hF
  rw [hcast] at hF
  clear h1 hb1
  go_wp2
  first | go_end0 | ((try simp only [Exit.inBlock, Exit.then]); refine bodyPost_ret (results_none rfl _ _ _) rfl ?_)
  exact ⟨rfl, ⟨a + 1, by omega, rfl, by unfold RdA; rw [hcast]; exact hF.out⟩, hG.out⟩
theorem take_no (g mb a : Nat) (s : ByteArray) (z e0 b : Int) (w : World) (h : RdA w g s mb a e0 b) (h0 : e0 ≠ 0) :
  Calls Tryz.prog 73 #[.pointer (some ⟨g, 0, none⟩), .int .u8 z] w fun u w' => u = .returned (.tuple #[]) /\ w = w' := by
 have z0 := Blk.cell h 0; have z1 := Blk.cell h 1; have z2 := Blk.cell h 2; have z3 := Blk.cell h 3; have z4 := Blk.cell h 4
 have hl := h.lt
 have hz : (e0 != 0) = true := by simpa using h0
 clear h
 go_enter Tryz.func73, Tryz.ntmps73
 go_wp2
 first | go_end0 | ((try simp only [Exit.inBlock, Exit.then]); refine bodyPost_ret (results_none rfl _ _ _) rfl ?_)
 exact ⟨rfl, rfl⟩
theorem tw_in {p : UInt8 -> Bool} : ∀ {l : List UInt8} {j : Nat}, j < (l.takeWhile p).length -> ∃ x, l[j]? = some x /\ p x = true
 | [], j, h => by simp at h
 | c :: r, j, h => by
  rw [List.takeWhile_cons] at h
  by_cases hc : p c = true
  ·
   rw [if_pos hc] at h
   cases j with
   | zero => exact ⟨c, rfl, hc⟩
   | succ j => exact tw_in (l := r) (by simpa using h)
  · rw [if_neg hc] at h; simp at h
theorem tw_out {p : UInt8 -> Bool} : ∀ {l : List UInt8} {x : UInt8}, l[(l.takeWhile p).length]? = some x -> p x = false
 | [], x, h => by simp at h
 | c :: r, x, h => by
  rw [List.takeWhile_cons] at h
  by_cases hc : p c = true
  ·
   rw [if_pos hc] at h
   exact tw_out (l := r) (by simpa using h)
  ·
   rw [if_neg hc] at h
   simp at h
   subst h
   simpa using hc
theorem tw_le (p : UInt8 -> Bool) (l : List UInt8) : (l.takeWhile p).length <= l.length := by
 induction l with
 | nil => simp
 | cons c r ih => rw [List.takeWhile_cons]; split <;> simp; omega
theorem tl_get {s : ByteArray} {a j : Nat} (h : a + j < s.size) : (tl s a)[j]? = some (s[a + j]'h) := by
 unfold tl
 rw [List.getElem?_drop]
 exact get_list h
theorem tl_take (s : ByteArray) (a n : Nat) : s.extract a (a + n) = ofL ((tl s a).take n) := by
 apply ba_ext
 rw [ofL_list, Lib.extract_data, Nat.add_sub_cancel_left]
 rfl
def runD (c : UInt8) (l : List UInt8) : Nat := if c = 48 then 0 else (l.takeWhile digU).length
theorem numL_run {c : UInt8} {l : List UInt8} (h : digU c = true) : numL (c :: l) = 1 + runD c l := by
 rw [numL, if_pos h]
 unfold runD
 split <;> rfl
theorem numeral_any (g mb a : Nat) (s : ByteArray) (w : World) (h : RdA w g s mb a 0 0) (ha : a <= s.size) (hs : s.size <= 281474976710656) :
  Calls Tryz.prog 158 #[.pointer (some ⟨g, 0, none⟩)] w fun u w' => ∃ t, u = .returned (.tuple #[.string t, .int .i64 a]) /\ (∀ d r, numG (tl s a) = .ok d r -> t = ofL d) /\ StG w' g s mb (numG (tl s a)) /\ Fg g w w' := by
 have z0 := Blk.cell h 0; have z1 := Blk.cell h 1; have z2 := Blk.cell h 2; have z3 := Blk.cell h 3; have z4 := Blk.cell h 4
 have hl := h.lt
 by_cases hlt : a < s.size
 ·
  have hb : ((a : Int) == (s.size : Int)) = false := by rw [beq_eq_false_iff_ne]; omega
  have hT := tl_at hlt
  obtain ⟨c, hc⟩ : ∃ c, s[a]'hlt = c := ⟨_, rfl⟩
  rw [hc] at hT
  obtain ⟨y, hy⟩ : ∃ y : Nat, c.toNat = y := ⟨_, rfl⟩
  have hy0 : (s[a]'hlt).toNat = y := by rw [hc]; exact hy
  have CD := digitS_any (y : Int)
  have hdy : digU c = digV (y : Int) := by unfold digU; rw [hy]
  obtain ⟨bd, hbd0⟩ : ∃ b, digV (y : Int) = b := ⟨_, rfl⟩
  simp only [hbd0] at CD
  rw [hbd0] at hdy
  replace CD := Hd CD
  cases bd
  ·
   have hL : numG (tl s a) = lost (tl s a) := by unfold numG; rw [if_pos (by rw [hT, numL, hdy]; rfl)]
   have hy2 := Hd hy
   clear hT hdy hbd0 hy hc
   rw [hL]
   have CR := Hd (fun W (hW : Below w.heap.size w W) => refuse_any g mb a s W (h.below hW) ha hs)
   have hbd : Below w.heap.size w w.drew := brf.drew
   clear h
   go_enter Tryz.func158, Tryz.ntmps158
   go_wp2
   refine wp_region_mix (S := (fun x => x = w.drew)) [(0, .q), (1, .q), (2, .q), (3, .q), (4, .q), (5, .q), (6, .q), (7, .q), (8, .q), (9, .q), (10, .q), (11, .q), (12, .q), (13, .q), (14, .q), (15, .q), (16, .q), (17, .q), (18, .q), (19, .q), (20, .t), (21, .p), (22, .p)] (by kernel_rfl) (by kernel_rfl) (by kernel_rfl) (fun d _ _ _ _ h => by cases d <;> exact h) (rfl) ?_
   iterate 20 (refine wpMix_q rfl rfl (fun K hK => ?_); apply Exists.intro; refine ⟨fun w' hw' => ?_, ?_⟩; (focus (go_simp; try rfl)); go_simp; refine hK _ _ ?_; clear hK K)
   refine wpMix_t rfl rfl (fun K hK => ?_)
   go_simp
   refine (CD.out w.drew).mono ?_
   rintro e w' ⟨rfl, rfl⟩
   dsimp only
   refine hK.out _ _ ?_
   clear hK K
   iterate 2 (refine wpMix_p rfl rfl (fun K hK => ?_); apply Exists.intro; refine ⟨fun w' => ?_, ?_⟩; (focus (go_simp; try rfl)); go_simp; refine hK _ _ ?_; clear hK K)
   refine wpMix_nil ?_
   go_wp2_with fail
   refine (CR.out w.drew hbd).mono ?_
   rintro e w1 ⟨rfl, h1, hf⟩
   go_wp2
   go_ret2
   exact ⟨⟨#[]⟩, rfl, fun d r e => absurd e fun e => lost_ok e, lost_unit h1, (Fr.below hbd).trans hf⟩
  ·
   have hn1 : numL (tl s a) = 1 + runD c (tl s (a + 1)) := by rw [hT]; exact numL_run hdy
   obtain ⟨D, hD⟩ : ∃ D, runD c (tl s (a + 1)) = D := ⟨_, rfl⟩
   rw [hD] at hn1
   have hDl : D <= s.size - (a + 1) := by
    rw [<- hD]
    unfold runD
    split
    · omega
    · have := tw_le digU (tl s (a + 1)); rw [tl_len] at this; exact this
   have hDc : c = 48 -> D = 0 := fun e => by rw [<- hD]; unfold runD; rw [if_pos e]
   have hDi : ∀ j, j < D -> ∃ h : a + 1 + j < s.size, digV ((s[a + 1 + j]'h).toNat : Int) = true := fun j hj => by
    have h1 : a + 1 + j < s.size := by omega
    refine ⟨h1, ?_⟩
    rw [<- hD] at hj
    unfold runD at hj
    split at hj
    · omega
    ·
     obtain ⟨x, hx, hp⟩ := tw_in hj
     rw [tl_get h1] at hx
     injection hx with hx
     subst hx
     exact hp
   have hDo : c ≠ 48 -> ∀ h : a + 1 + D < s.size, digV ((s[a + 1 + D]'h).toNat : Int) = false := fun hc48 h1 => by
    have h2 : D = ((tl s (a + 1)).takeWhile digU).length := by rw [<- hD]; unfold runD; rw [if_neg hc48]
    exact tw_out (p := digU) (l := tl s (a + 1)) (x := s[a + 1 + D]'h1) (by rw [<- h2]; exact tl_get h1)
   have hc48 : (c = 48) ↔ (y : Int) = 48 := by
    constructor
    · intro e; subst e; rw [<- hy]; rfl
    · intro e; exact UInt8.toNat_inj.1 (by rw [hy]; have : (48 : UInt8).toNat = 48 := rfl; omega)
   have hcast : ((a + 1 : Nat) : Int) = (a : Int) + 1 := by omega
   have hG : numG (tl s a) = if 1000 < 1 + D then .bad (s.size - a) 4 else .ok ((tl s a).take (1 + D)) (tl s (a + (1 + D))) := by
    unfold numG
    rw [hn1, if_neg (by omega), tl_len, tl_drop]
   have hex : s.extract a (a + 1 + D) = ofL ((tl s a).take (1 + D)) := by rw [Nat.add_assoc]; exact tl_take s a (1 + D)
   have hbd : Below w.heap.size w w.drew := brf.drew
   have h2 : RdA w.drew g s mb a 0 0 := h
   have f1 := Blk.frozen h2 1
   have h3 := h2.set1 (a + 1)
   have hf3 : Fg g w (w.drew.setCell ⟨g, 1, none⟩ (.int .i64 ((a + 1 : Nat) : Int))) := (Fr.below (Y := fun b => b = g) hbd).setc (.inl rfl)
   unfold RdA at h3
   rw [hcast] at h3 hf3
   obtain ⟨GG, hGG⟩ : ∃ G, numG (tl s a) = G := ⟨_, rfl⟩
   rw [hGG] at hG ⊢
   have HGG := Hd hG
   replace hGG := Hd hGG
   have HH := Hd h3; have HF := Hd hf3; have HEX := Hd hex; have HDI := Hd hDi; have HDO := Hd hDo; have HDC := Hd hDc; have H48 := Hd hc48
   have hy2 := Hd hy
   clear h h2 h3 hf3 hT hdy hbd0 hy hc hn1 hD hDi hDo hDc hc48 hG hex
   go_enter Tryz.func158, Tryz.ntmps158
   go_wp2
   refine wp_region_mix (S := (fun x => x = w.drew)) [(0, .q), (1, .q), (2, .q), (3, .q), (4, .q), (5, .q), (6, .q), (7, .q), (8, .q), (9, .q), (10, .q), (11, .q), (12, .q), (13, .q), (14, .q), (15, .q), (16, .q), (17, .q), (18, .q), (19, .q), (20, .t), (21, .p), (22, .p)] (by kernel_rfl) (by kernel_rfl) (by kernel_rfl) (fun d _ _ _ _ h => by cases d <;> exact h) (rfl) ?_
   iterate 20 (refine wpMix_q rfl rfl (fun K hK => ?_); apply Exists.intro; refine ⟨fun w' hw' => ?_, ?_⟩; (focus (go_simp; try rfl)); go_simp; refine hK _ _ ?_; clear hK K)
   refine wpMix_t rfl rfl (fun K hK => ?_)
   go_simp
   refine (CD.out w.drew).mono ?_
   rintro e w' ⟨rfl, rfl⟩
   dsimp only
   refine hK.out _ _ ?_
   clear hK K
   iterate 2 (refine wpMix_p rfl rfl (fun K hK => ?_); apply Exists.intro; refine ⟨fun w' => ?_, ?_⟩; (focus (go_simp; try rfl)); go_simp; refine hK _ _ ?_; clear hK K)
   refine wpMix_nil ?_
   go_wp2
   refine world_gen (fun W => RdA W g s mb (a + 1) 0 0 /\ Fg g w W) ⟨by unfold RdA; rw [hcast]; exact HH.out, HF.out⟩ ?_
   rintro w0 ⟨h0, hf0⟩
   clear HH HF z0 z1 z2 z3 z4 f1 CD
   go_loopg [] D (fun m wr => ∃ j : Nat, Hid (j + m = D) /\ Hid (RdA wr g s mb (a + 1 + j) 0 0) /\ Fg g w wr)
   case atStart => exact ⟨0, by show _ = _; omega, h0, hf0⟩
   case round =>
    clear h0 hf0
    obtain ⟨j, hj, hR, hfr⟩ := hrel
    have hRo := hR.out
    have z0 := Blk.cell hRo 0; have z1 := Blk.cell hRo 1; have z2 := Blk.cell hRo 2; have z3 := Blk.cell hRo 3; have z4 := Blk.cell hRo 4
    have hl := hRo.lt
    have f1 := Blk.frozen hRo 1
    have hcj : ((a + 1 + j : Nat) : Int) = (a : Int) + 1 + j := by omega
    have hbd1 : Below wr.heap.size wr wr.drew := brf.drew
    clear hRo
    obtain ⟨p, hp⟩ : ∃ p, a + 1 + j = p := ⟨_, rfl⟩
    rw [hp] at z1 hR hcj
    have hpc : ((p + 1 : Nat) : Int) = (p : Int) + 1 := by omega
    by_cases hjD : j < D
    ·
     have h48 : ((y : Int) == 48) = false := by
      rw [beq_eq_false_iff_ne]
      intro e
      have := HDC.out (H48.out.2 e)
      omega
     have h48n : ((y : Int) != 48) = true := by rw [bne, h48]; rfl
     obtain ⟨hps, hpd⟩ := HDI.out j hjD
     simp only [hp] at hps hpd
     obtain ⟨v, hv⟩ : ∃ v : Nat, (s[p]'hps).toNat = v := ⟨_, rfl⟩
     rw [hv] at hpd
     have CD := digitS_any (v : Int)
     rw [hpd] at CD
     replace CD := Hd CD; replace hp := Hd hp; replace hpd := Hd hpd
     have hR3 := Hd ((show RdA wr.drew g s mb p 0 0 from hR.out).set1 (p + 1))
     have hF3 := Hd ((hfr.trans (Fr.below hbd1)).setc (g := g) (i := 1) (u := .int .i64 ((p + 1 : Nat) : Int)) (.inl rfl))
     unfold RdA at hR3
     rw [hpc] at hR3 hF3
     clear hR hcj hfr hbd1
     go_wp2
     refine wp_region_mix (S := (fun x => x = wr.drew)) [(0, .q), (1, .q), (2, .q), (3, .q), (4, .q), (5, .q), (6, .q), (7, .q), (8, .q), (9, .q), (10, .q), (11, .q), (12, .q), (13, .q), (14, .q), (15, .q), (16, .q), (17, .q), (18, .q), (19, .q), (20, .q), (21, .q), (22, .q), (23, .q), (24, .q), (25, .q), (26, .q), (27, .q), (28, .q), (29, .t), (30, .p)] (by kernel_rfl) (by kernel_rfl) (by kernel_rfl) (fun d _ _ _ _ h => by cases d <;> exact h) (rfl) ?_
     iterate 29 (refine wpMix_q rfl rfl (fun K hK => ?_); apply Exists.intro; refine ⟨fun w' hw' => ?_, ?_⟩; (focus (go_simp; try rfl)); go_simp; refine hK _ _ ?_; clear hK K)
     refine wpMix_t rfl rfl (fun K hK => ?_)
     go_simp
     refine (CD.out wr.drew).mono ?_
     rintro e w' ⟨rfl, rfl⟩
     dsimp only
     refine hK.out _ _ ?_
     clear hK K
     iterate 1 (refine wpMix_p rfl rfl (fun K hK => ?_); apply Exists.intro; refine ⟨fun w' => ?_, ?_⟩; (focus (go_simp; try rfl)); go_simp; refine hK _ _ ?_; clear hK K)
     refine wpMix_nil ?_
     go_wp2
     go_roundg (gk - 1)
     case rel => exact ⟨j + 1, by have := hj.out; show _ = _; omega, by unfold RdA; rw [show a + 1 + (j + 1) = p + 1 by have := hp.out; omega, hpc]; exact hR3.out, hF3.out⟩
     case measure => have := hj.out; omega
    ·
     have hjD2 : j = D := by have := hj.out; omega
     subst hjD2
     have hex2 := HEX.out
     rw [hp] at hex2
     obtain ⟨t, ht⟩ : ∃ t, ofL ((tl s a).take (1 + j)) = t := ⟨_, rfl⟩
     rw [ht] at hex2
     have htz : t.size = 1 + j := by
      rw [<- ht]
      have : ((tl s a).take (1 + j)).length = 1 + j := by rw [List.length_take, tl_len]; omega
      exact this
     have hps : p <= s.size := by omega
     have hap : a <= p := by omega
     have hR3 : RdA wr.drew.drew g s mb p 0 0 := hR.out
     have hF3 : Fg g w wr.drew.drew := hfr.trans (Fr.below hbd1.drew)
     have CF := Hd (fail_any g mb p s 4 (a : Int) wr.drew.drew hR3)
     replace hR3 := Hd hR3; replace hF3 := Hd hF3; replace ht := Hd ht
     have hp2 := Hd hp
     clear hR hcj hfr hbd1
     by_cases h48c : (y : Int) = 48
     ·
      have h48 : ((y : Int) == 48) = true := by simpa using h48c
      have h48n : ((y : Int) != 48) = false := by rw [bne, h48]; rfl
      clear hp
      replace h48c := Hd h48c
      go_wp2
      refine wp_region_mix (S := (fun x => x = wr.drew)) [(0, .q), (1, .q), (2, .q), (3, .q), (4, .q), (5, .q), (6, .q), (7, .q), (8, .q), (9, .q), (10, .q), (11, .q), (12, .q), (13, .q), (14, .q), (15, .q), (16, .q), (17, .q), (18, .q), (19, .q), (20, .q), (21, .q), (22, .q), (23, .q), (24, .q), (25, .q), (26, .q), (27, .q), (28, .q), (29, .t), (30, .p)] (by kernel_rfl) (by kernel_rfl) (by kernel_rfl) (fun d _ _ _ _ h => by cases d <;> exact h) (rfl) ?_
      iterate 8 (refine wpMix_q rfl rfl (fun K hK => ?_); apply Exists.intro; refine ⟨fun w' hw' => ?_, ?_⟩; (focus (go_simp; try rfl)); go_simp; refine hK _ _ ?_; clear hK K)
      iterate 10 (refine wpMix_skip rfl rfl (fun K hK => ?_); go_simp; refine hK _ _ ?_; clear hK K)
      iterate 2 (refine wpMix_q rfl rfl (fun K hK => ?_); apply Exists.intro; refine ⟨fun w' hw' => ?_, ?_⟩; (focus (go_simp; try rfl)); go_simp; refine hK _ _ ?_; clear hK K)
      iterate 10 (refine wpMix_skip rfl rfl (fun K hK => ?_); go_simp; refine hK _ _ ?_; clear hK K)
      iterate 1 (refine wpMix_p rfl rfl (fun K hK => ?_); apply Exists.intro; refine ⟨fun w' => ?_, ?_⟩; (focus (go_simp; try rfl)); go_simp; refine hK _ _ ?_; clear hK K)
      refine wpMix_nil ?_
      go_wp2
      refine wp_region_mix (S := (fun x => x = wr.drew.drew)) [(0, .q), (1, .q), (2, .q), (3, .q), (4, .q), (5, .q), (6, .q), (7, .q), (8, .q), (9, .p), (10, .p)] (by kernel_rfl) (by kernel_rfl) (by kernel_rfl) (fun d _ _ _ _ h => by cases d <;> exact h) (rfl) ?_
      iterate 9 (refine wpMix_q rfl rfl (fun K hK => ?_); apply Exists.intro; refine ⟨fun w' hw' => ?_, ?_⟩; (focus (go_simp; try rfl)); go_simp; refine hK _ _ ?_; clear hK K)
      iterate 2 (refine wpMix_p rfl rfl (fun K hK => ?_); apply Exists.intro; refine ⟨fun w' => ?_, ?_⟩; (focus (go_simp; try rfl)); go_simp; refine hK _ _ ?_; clear hK K)
      refine wpMix_nil ?_
      by_cases hbig : 1000 < 1 + j
      ·
       have hbig2 : (1000 : Int) < (t.size : Int) := by omega
       have hbg3 : decide (1000 < t.size) = true := by rw [decide_eq_true_eq]; omega
       replace hbig := Hd hbig
       replace htz := Hd htz
       go_wp2_with fail
       refine CF.out.mono ?_
       rintro e w1 ⟨rfl, h1, hf⟩
       go_wp2
       go_ret2
       have hGe := HGG.out
       rw [if_pos hbig.out] at hGe
       subst hGe
       exact ⟨t, rfl, fun d r e => (by cases e), ⟨p, hps, by omega, by decide, by rw [show s.size - (s.size - a) = a by omega]; exact h1⟩, hF3.out.trans hf⟩
      ·
       have hbig2 : ¬ (1000 : Int) < (t.size : Int) := by omega
       have hbg3 : decide (1000 < t.size) = false := by rw [decide_eq_false_iff_not]; omega
       replace hbig := Hd hbig
       replace htz := Hd htz
       go_wp2
       go_ret2
       have hGe := HGG.out
       rw [if_neg hbig.out] at hGe
       subst hGe
       exact ⟨t, rfl, fun d r e => (by injection e with e1 e2; rw [<- e1]; exact ht.out.symm), ⟨p, hps, by rw [show a + (1 + j) = p by have := hp2.out; omega], hR3.out⟩, hF3.out⟩
     ·
      have h48 : ((y : Int) == 48) = false := by simpa using h48c
      have h48n : ((y : Int) != 48) = true := by rw [bne, h48]; rfl
      by_cases hpz : p < s.size
      ·
       have hpd := HDO.out (fun e => h48c (H48.out.1 e)) (by rw [hp]; exact hpz)
       simp only [hp] at hpd
       obtain ⟨v, hv⟩ : ∃ v : Nat, (s[p]'hpz).toNat = v := ⟨_, rfl⟩
       rw [hv] at hpd
       have CD := digitS_any (v : Int)
       rw [hpd] at CD
       replace CD := Hd CD; replace hpd := Hd hpd
       clear hp
       replace h48c := Hd h48c
       go_wp2
       refine wp_region_mix (S := (fun x => x = wr.drew)) [(0, .q), (1, .q), (2, .q), (3, .q), (4, .q), (5, .q), (6, .q), (7, .q), (8, .q), (9, .q), (10, .q), (11, .q), (12, .q), (13, .q), (14, .q), (15, .q), (16, .q), (17, .q), (18, .q), (19, .q), (20, .q), (21, .q), (22, .q), (23, .q), (24, .q), (25, .q), (26, .q), (27, .q), (28, .q), (29, .t), (30, .p)] (by kernel_rfl) (by kernel_rfl) (by kernel_rfl) (fun d _ _ _ _ h => by cases d <;> exact h) (rfl) ?_
       iterate 29 (refine wpMix_q rfl rfl (fun K hK => ?_); apply Exists.intro; refine ⟨fun w' hw' => ?_, ?_⟩; (focus (go_simp; try rfl)); go_simp; refine hK _ _ ?_; clear hK K)
       refine wpMix_t rfl rfl (fun K hK => ?_)
       go_simp
       refine (CD.out wr.drew).mono ?_
       rintro e w' ⟨rfl, rfl⟩
       dsimp only
       refine hK.out _ _ ?_
       clear hK K
       iterate 1 (refine wpMix_p rfl rfl (fun K hK => ?_); apply Exists.intro; refine ⟨fun w' => ?_, ?_⟩; (focus (go_simp; try rfl)); go_simp; refine hK _ _ ?_; clear hK K)
       refine wpMix_nil ?_
       go_wp2
       refine wp_region_mix (S := (fun x => x = wr.drew.drew)) [(0, .q), (1, .q), (2, .q), (3, .q), (4, .q), (5, .q), (6, .q), (7, .q), (8, .q), (9, .p), (10, .p)] (by kernel_rfl) (by kernel_rfl) (by kernel_rfl) (fun d _ _ _ _ h => by cases d <;> exact h) (rfl) ?_
       iterate 9 (refine wpMix_q rfl rfl (fun K hK => ?_); apply Exists.intro; refine ⟨fun w' hw' => ?_, ?_⟩; (focus (go_simp; try rfl)); go_simp; refine hK _ _ ?_; clear hK K)
       iterate 2 (refine wpMix_p rfl rfl (fun K hK => ?_); apply Exists.intro; refine ⟨fun w' => ?_, ?_⟩; (focus (go_simp; try rfl)); go_simp; refine hK _ _ ?_; clear hK K)
       refine wpMix_nil ?_
       by_cases hbig : 1000 < 1 + j
       ·
        have hbig2 : (1000 : Int) < (t.size : Int) := by omega
        have hbg3 : decide (1000 < t.size) = true := by rw [decide_eq_true_eq]; omega
        replace hbig := Hd hbig
        replace htz := Hd htz
        go_wp2_with fail
        refine CF.out.mono ?_
        rintro e w1 ⟨rfl, h1, hf⟩
        go_wp2
        go_ret2
        have hGe := HGG.out
        rw [if_pos hbig.out] at hGe
        subst hGe
        exact ⟨t, rfl, fun d r e => (by cases e), ⟨p, hps, by omega, by decide, by rw [show s.size - (s.size - a) = a by omega]; exact h1⟩, hF3.out.trans hf⟩
       ·
        have hbig2 : ¬ (1000 : Int) < (t.size : Int) := by omega
        have hbg3 : decide (1000 < t.size) = false := by rw [decide_eq_false_iff_not]; omega
        replace hbig := Hd hbig
        replace htz := Hd htz
        go_wp2
        go_ret2
        have hGe := HGG.out
        rw [if_neg hbig.out] at hGe
        subst hGe
        exact ⟨t, rfl, fun d r e => (by injection e with e1 e2; rw [<- e1]; exact ht.out.symm), ⟨p, hps, by rw [show a + (1 + j) = p by have := hp2.out; omega], hR3.out⟩, hF3.out⟩
      ·
       clear hp
       replace h48c := Hd h48c
       go_wp2
       refine wp_region_mix (S := (fun x => x = wr.drew)) [(0, .q), (1, .q), (2, .q), (3, .q), (4, .q), (5, .q), (6, .q), (7, .q), (8, .q), (9, .q), (10, .q), (11, .q), (12, .q), (13, .q), (14, .q), (15, .q), (16, .q), (17, .q), (18, .q), (19, .q), (20, .q), (21, .q), (22, .q), (23, .q), (24, .q), (25, .q), (26, .q), (27, .q), (28, .q), (29, .t), (30, .p)] (by kernel_rfl) (by kernel_rfl) (by kernel_rfl) (fun d _ _ _ _ h => by cases d <;> exact h) (rfl) ?_
       iterate 20 (refine wpMix_q rfl rfl (fun K hK => ?_); apply Exists.intro; refine ⟨fun w' hw' => ?_, ?_⟩; (focus (go_simp; try rfl)); go_simp; refine hK _ _ ?_; clear hK K)
       iterate 10 (refine wpMix_skip rfl rfl (fun K hK => ?_); go_simp; refine hK _ _ ?_; clear hK K)
       iterate 1 (refine wpMix_p rfl rfl (fun K hK => ?_); apply Exists.intro; refine ⟨fun w' => ?_, ?_⟩; (focus (go_simp; try rfl)); go_simp; refine hK _ _ ?_; clear hK K)
       refine wpMix_nil ?_
       go_wp2
       refine wp_region_mix (S := (fun x => x = wr.drew.drew)) [(0, .q), (1, .q), (2, .q), (3, .q), (4, .q), (5, .q), (6, .q), (7, .q), (8, .q), (9, .p), (10, .p)] (by kernel_rfl) (by kernel_rfl) (by kernel_rfl) (fun d _ _ _ _ h => by cases d <;> exact h) (rfl) ?_
       iterate 9 (refine wpMix_q rfl rfl (fun K hK => ?_); apply Exists.intro; refine ⟨fun w' hw' => ?_, ?_⟩; (focus (go_simp; try rfl)); go_simp; refine hK _ _ ?_; clear hK K)
       iterate 2 (refine wpMix_p rfl rfl (fun K hK => ?_); apply Exists.intro; refine ⟨fun w' => ?_, ?_⟩; (focus (go_simp; try rfl)); go_simp; refine hK _ _ ?_; clear hK K)
       refine wpMix_nil ?_
       by_cases hbig : 1000 < 1 + j
       ·
        have hbig2 : (1000 : Int) < (t.size : Int) := by omega
        have hbg3 : decide (1000 < t.size) = true := by rw [decide_eq_true_eq]; omega
        replace hbig := Hd hbig
        replace htz := Hd htz
        go_wp2_with fail
        refine CF.out.mono ?_
        rintro e w1 ⟨rfl, h1, hf⟩
        go_wp2
        go_ret2
        have hGe := HGG.out
        rw [if_pos hbig.out] at hGe
        subst hGe
        exact ⟨t, rfl, fun d r e => (by cases e), ⟨p, hps, by omega, by decide, by rw [show s.size - (s.size - a) = a by omega]; exact h1⟩, hF3.out.trans hf⟩
       ·
        have hbig2 : ¬ (1000 : Int) < (t.size : Int) := by omega
        have hbg3 : decide (1000 < t.size) = false := by rw [decide_eq_false_iff_not]; omega
        replace hbig := Hd hbig
        replace htz := Hd htz
        go_wp2
        go_ret2
        have hGe := HGG.out
        rw [if_neg hbig.out] at hGe
        subst hGe
        exact ⟨t, rfl, fun d r e => (by injection e with e1 e2; rw [<- e1]; exact ht.out.symm), ⟨p, hps, by rw [show a + (1 + j) = p by have := hp2.out; omega], hR3.out⟩, hF3.out⟩
 ·
  have hae : a = s.size := by omega
  have hb : ((a : Int) == (s.size : Int)) = true := by rw [beq_iff_eq]; omega
  have hL : numG (tl s a) = lost (tl s a) := by unfold numG; rw [if_pos (by rw [tl_end (by omega)]; rfl)]
  replace hae := Hd hae
  rw [hL]
  have CR := Hd (fun W (hW : Below w.heap.size w W) => refuse_any g mb a s W (h.below hW) ha hs)
  have hbd : Below w.heap.size w w.drew := brf.drew
  clear h
  go_enter Tryz.func158, Tryz.ntmps158
  go_wp2
  refine wp_region_mix (S := (fun x => x = w.drew)) [(0, .q), (1, .q), (2, .q), (3, .q), (4, .q), (5, .q), (6, .q), (7, .q), (8, .q), (9, .q), (10, .q), (11, .q), (12, .q), (13, .q), (14, .q), (15, .q), (16, .q), (17, .q), (18, .q), (19, .q), (20, .t), (21, .p), (22, .p)] (by kernel_rfl) (by kernel_rfl) (by kernel_rfl) (fun d _ _ _ _ h => by cases d <;> exact h) (rfl) ?_
  iterate 11 (refine wpMix_q rfl rfl (fun K hK => ?_); apply Exists.intro; refine ⟨fun w' hw' => ?_, ?_⟩; (focus (go_simp; try rfl)); go_simp; refine hK _ _ ?_; clear hK K)
  iterate 11 (refine wpMix_skip rfl rfl (fun K hK => ?_); go_simp; refine hK _ _ ?_; clear hK K)
  iterate 1 (refine wpMix_p rfl rfl (fun K hK => ?_); apply Exists.intro; refine ⟨fun w' => ?_, ?_⟩; (focus (go_simp; try rfl)); go_simp; refine hK _ _ ?_; clear hK K)
  refine wpMix_nil ?_
  go_wp2_with fail
  refine (CR.out w.drew hbd).mono ?_
  rintro e w1 ⟨rfl, h1, hf⟩
  go_wp2
  go_ret2
  exact ⟨⟨#[]⟩, rfl, fun d r e => absurd e fun e => lost_ok e, lost_unit h1, (Fr.below hbd).trans hf⟩
theorem namL_run {c : UInt8} {l : List UInt8} (h : letU c = true) : namL (c :: l) = ((c :: l).takeWhile wordV).length := by
 have hw : wordV c = true := by unfold wordV; unfold letU at h; rw [h]; rfl
 rw [namL, if_pos h, List.takeWhile_cons, if_pos hw, List.length_cons]
 omega
theorem name_any (g mb a nm : Nat) (s : ByteArray) (names : List ByteArray) (w : World) (h : RdA w g s mb a 0 0) (ha : a <= s.size) (hs : s.size <= 281474976710656) (hm : OwnV w mb nm (names.take 64)) (hne : mb ≠ g) :
  Calls Tryz.prog 161 #[.pointer (some ⟨g, 0, none⟩)] w fun u w' => ∃ n : Nat, u = .returned (.int .i64 n) /\ n < 64 /\ (∀ v r, namG names (tl s a) = .ok v r -> n = v) /\ StG w' g s mb (namG names (tl s a)) /\ Fg g w w' := by
 have z0 := Blk.cell h 0; have z1 := Blk.cell h 1; have z2 := Blk.cell h 2; have z3 := Blk.cell h 3; have z4 := Blk.cell h 4
 have hl := h.lt
 obtain ⟨GG, hGG⟩ : ∃ G, namG names (tl s a) = G := ⟨_, rfl⟩
 rw [hGG]
 replace hGG := Hd hGG
 have HM := Hd (fun W (hW : Fg g w W) => hm.fr hW hne)
 clear hm
 by_cases hlt : a < s.size
 ·
  have hb : ((a : Int) == (s.size : Int)) = false := by rw [beq_eq_false_iff_ne]; omega
  have hT := tl_at hlt
  obtain ⟨c, hc⟩ : ∃ c, s[a]'hlt = c := ⟨_, rfl⟩
  rw [hc] at hT
  obtain ⟨y, hy⟩ : ∃ y : Nat, c.toNat = y := ⟨_, rfl⟩
  have hy0 : (s[a]'hlt).toNat = y := by rw [hc]; exact hy
  have CD := letterS_any (y : Int)
  have hdy : letU c = letV (y : Int) := by unfold letU; rw [hy]
  obtain ⟨bd, hbd0⟩ : ∃ b, letV (y : Int) = b := ⟨_, rfl⟩
  simp only [hbd0] at CD
  rw [hbd0] at hdy
  replace CD := Hd CD
  cases bd
  ·
   have hL : namG names (tl s a) = lost (tl s a) := by unfold namG; rw [if_pos (by rw [hT, namL, hdy]; rfl)]
   have hy2 := Hd hy
   clear hT hdy hbd0 hy hc HM
   have hGe : GG = lost (tl s a) := hGG.out.symm.trans hL
   have CR := Hd (fun W (hW : Below w.heap.size w W) => refuse_any g mb a s W (h.below hW) ha hs)
   have hbd : Below w.heap.size w w.drew := brf.drew
   replace hGe := Hd hGe
   clear h hL
   go_enter Tryz.func161, Tryz.ntmps161
   go_wp2
   refine wp_region_mix (S := (fun x => x = w.drew)) [(0, .q), (1, .q), (2, .q), (3, .q), (4, .q), (5, .q), (6, .q), (7, .q), (8, .q), (9, .q), (10, .q), (11, .q), (12, .q), (13, .q), (14, .q), (15, .q), (16, .q), (17, .q), (18, .q), (19, .q), (20, .t), (21, .p), (22, .p)] (by kernel_rfl) (by kernel_rfl) (by kernel_rfl) (fun d _ _ _ _ h => by cases d <;> exact h) (rfl) ?_
   iterate 20 (refine wpMix_q rfl rfl (fun K hK => ?_); apply Exists.intro; refine ⟨fun w' hw' => ?_, ?_⟩; (focus (go_simp; try rfl)); go_simp; refine hK _ _ ?_; clear hK K)
   refine wpMix_t rfl rfl (fun K hK => ?_)
   go_simp
   refine (CD.out w.drew).mono ?_
   rintro e w' ⟨rfl, rfl⟩
   dsimp only
   refine hK.out _ _ ?_
   clear hK K
   iterate 2 (refine wpMix_p rfl rfl (fun K hK => ?_); apply Exists.intro; refine ⟨fun w' => ?_, ?_⟩; (focus (go_simp; try rfl)); go_simp; refine hK _ _ ?_; clear hK K)
   refine wpMix_nil ?_
   go_wp2_with fail
   refine (CR.out w.drew hbd).mono ?_
   rintro e w1 ⟨rfl, h1, hf⟩
   go_wp2
   go_ret
   exact ⟨0, rfl, by decide, fun v r e => absurd (hGe.out.symm.trans e) fun e => lost_ok e, by rw [hGe.out]; exact lost_unit h1, (Fr.below hbd).trans hf⟩
  ·
   have hn1 : namL (tl s a) = ((tl s a).takeWhile wordV).length := by rw [hT]; exact namL_run hdy
   obtain ⟨D, hD⟩ : ∃ D, ((tl s a).takeWhile wordV).length = D := ⟨_, rfl⟩
   rw [hD] at hn1
   have hDl : D <= s.size - a := by rw [<- hD]; have := tw_le wordV (tl s a); rw [tl_len] at this; exact this
   have hD0 : 0 < D := by rw [<- hn1, hT, namL, if_pos hdy]; omega
   have hDi : ∀ j, j < D -> ∃ h : a + j < s.size, (letV ((s[a + j]'h).toNat : Int) || digV ((s[a + j]'h).toNat : Int)) = true := fun j hj => by
    have h1 : a + j < s.size := by omega
    refine ⟨h1, ?_⟩
    rw [<- hD] at hj
    obtain ⟨x, hx, hp⟩ := tw_in hj
    rw [tl_get h1] at hx
    injection hx with hx
    subst hx
    exact hp
   have hDo : ∀ h : a + D < s.size, (letV ((s[a + D]'h).toNat : Int) || digV ((s[a + D]'h).toNat : Int)) = false := fun h1 =>
    tw_out (p := wordV) (l := tl s a) (x := s[a + D]'h1) (by rw [hD]; exact tl_get h1)
   have hG : GG = match whoL (names.take 64) (ofL ((tl s a).take D)) with | none => .bad (s.size - a) 6 | some v => .ok v (tl s (a + D)) := by
    rw [<- hGG.out]
    unfold namG
    rw [hn1, if_neg (by omega), tl_len, tl_drop]
    rfl
   have hex : s.extract a (a + D) = ofL ((tl s a).take D) := tl_take s a D
   have HEX := Hd hex; have HDI := Hd hDi; have HDO := Hd hDo
   have hy2 := Hd hy; have HGG := Hd hG; have HDL := Hd hDl; have HD0 := Hd hD0
   have hbd : Below w.heap.size w w.drew := brf.drew
   have hR0 := Hd (show RdA w.drew g s mb a 0 0 from h)
   have hF0 := Hd (show Fg g w w.drew from Fr.below hbd)
   clear h hT hdy hbd0 hy hc hn1 hD hDi hDo hG hex hGG hDl hD0 hbd
   go_enter Tryz.func161, Tryz.ntmps161
   go_wp2
   refine wp_region_mix (S := (fun x => x = w.drew)) [(0, .q), (1, .q), (2, .q), (3, .q), (4, .q), (5, .q), (6, .q), (7, .q), (8, .q), (9, .q), (10, .q), (11, .q), (12, .q), (13, .q), (14, .q), (15, .q), (16, .q), (17, .q), (18, .q), (19, .q), (20, .t), (21, .p), (22, .p)] (by kernel_rfl) (by kernel_rfl) (by kernel_rfl) (fun d _ _ _ _ h => by cases d <;> exact h) (rfl) ?_
   iterate 20 (refine wpMix_q rfl rfl (fun K hK => ?_); apply Exists.intro; refine ⟨fun w' hw' => ?_, ?_⟩; (focus (go_simp; try rfl)); go_simp; refine hK _ _ ?_; clear hK K)
   refine wpMix_t rfl rfl (fun K hK => ?_)
   go_simp
   refine (CD.out w.drew).mono ?_
   rintro e w' ⟨rfl, rfl⟩
   dsimp only
   refine hK.out _ _ ?_
   clear hK K
   iterate 2 (refine wpMix_p rfl rfl (fun K hK => ?_); apply Exists.intro; refine ⟨fun w' => ?_, ?_⟩; (focus (go_simp; try rfl)); go_simp; refine hK _ _ ?_; clear hK K)
   refine wpMix_nil ?_
   go_wp2
   refine world_gen (fun W => RdA W g s mb a 0 0 /\ Fg g w W) ⟨hR0.out, hF0.out⟩ ?_
   rintro w0 ⟨h0, hf0⟩
   clear hR0 hF0 z0 z1 z2 z3 z4 CD hl
   go_loopg [] D (fun m wr => ∃ j : Nat, Hid (j + m = D) /\ Hid (RdA wr g s mb (a + j) 0 0) /\ Fg g w wr)
   case atStart => exact ⟨0, by show _ = _; omega, h0, hf0⟩
   case round =>
    clear h0 hf0
    obtain ⟨j, hj, hR, hfr⟩ := hrel
    have hRo := hR.out
    have z0 := Blk.cell hRo 0; have z1 := Blk.cell hRo 1; have z2 := Blk.cell hRo 2; have z3 := Blk.cell hRo 3; have z4 := Blk.cell hRo 4
    have hl := hRo.lt
    have f1 := Blk.frozen hRo 1
    have hbd1 : Below wr.heap.size wr wr.drew := brf.drew
    clear hRo
    obtain ⟨p, hp⟩ : ∃ p, a + j = p := ⟨_, rfl⟩
    rw [hp] at z1 hR
    have hpc : ((p + 1 : Nat) : Int) = (p : Int) + 1 := by omega
    by_cases hjD : j < D
    ·
     obtain ⟨hps, hpd⟩ := HDI.out j hjD
     simp only [hp] at hps hpd
     obtain ⟨v, hv⟩ : ∃ v : Nat, (s[p]'hps).toNat = v := ⟨_, rfl⟩
     rw [hv] at hpd
     have CL := letterS_any (v : Int)
     have CD := digitS_any (v : Int)
     replace hp := Hd hp
     have hR3 := Hd ((show RdA wr.drew g s mb p 0 0 from hR.out).set1 (p + 1))
     have hF3 := Hd ((hfr.trans (Fr.below hbd1)).setc (g := g) (i := 1) (u := .int .i64 ((p + 1 : Nat) : Int)) (.inl rfl))
     unfold RdA at hR3
     rw [hpc] at hR3 hF3
     obtain ⟨bl, hbl⟩ : ∃ b, letV (v : Int) = b := ⟨_, rfl⟩
     obtain ⟨bd, hbd⟩ : ∃ b, digV (v : Int) = b := ⟨_, rfl⟩
     simp only [hbl] at CL
     simp only [hbd] at CD
     rw [hbl, hbd] at hpd
     replace CL := Hd CL; replace CD := Hd CD; replace hbl := Hd hbl; replace hbd := Hd hbd
     clear hR hfr hbd1
     cases bl
     ·
      have hbt : bd = true := by simpa using hpd
      subst hbt
      clear hpd
      go_wp2
      refine wp_region_mix (S := (fun x => x = wr.drew)) [(0, .q), (1, .q), (2, .q), (3, .q), (4, .q), (5, .q), (6, .q), (7, .q), (8, .q), (9, .q), (10, .q), (11, .q), (12, .q), (13, .q), (14, .q), (15, .q), (16, .q), (17, .q), (18, .q), (19, .q), (20, .l), (21, .q), (22, .q), (23, .q), (24, .q), (25, .q), (26, .q), (27, .q), (28, .q), (29, .q), (30, .q), (31, .t), (32, .p), (33, .p)] (by kernel_rfl) (by kernel_rfl) (by kernel_rfl) (fun d _ _ _ _ h => by cases d <;> exact h) (rfl) ?_
      iterate 20 (refine wpMix_q rfl rfl (fun K hK => ?_); apply Exists.intro; refine ⟨fun w' hw' => ?_, ?_⟩; (focus (go_simp; try rfl)); go_simp; refine hK _ _ ?_; clear hK K)
      refine wpMix_l rfl rfl (fun K hK => ?_)
      go_simp
      refine (CL.out wr.drew).mono ?_
      rintro e w' ⟨rfl, rfl⟩
      dsimp only
      refine hK.out _ _ (rfl) (fun _ => ?_)
      clear hK K
      iterate 10 (refine wpMix_q rfl rfl (fun K hK => ?_); apply Exists.intro; refine ⟨fun w' hw' => ?_, ?_⟩; (focus (go_simp; try rfl)); go_simp; refine hK _ _ ?_; clear hK K)
      refine wpMix_t rfl rfl (fun K hK => ?_)
      go_simp
      refine (CD.out wr.drew).mono ?_
      rintro e w' ⟨rfl, rfl⟩
      dsimp only
      refine hK.out _ _ ?_
      clear hK K
      iterate 2 (refine wpMix_p rfl rfl (fun K hK => ?_); apply Exists.intro; refine ⟨fun w' => ?_, ?_⟩; (focus (go_simp; try rfl)); go_simp; refine hK _ _ ?_; clear hK K)
      refine wpMix_nil ?_
      go_wp2
      go_roundg (gk - 1)
      case rel => exact ⟨j + 1, by have := hj.out; show _ = _; omega, by unfold RdA; rw [show a + (j + 1) = p + 1 by have := hp.out; omega, hpc]; exact hR3.out, hF3.out⟩
      case measure => have := hj.out; omega
     ·
      clear hpd
      go_wp2
      refine wp_region_mix (S := (fun x => x = wr.drew)) [(0, .q), (1, .q), (2, .q), (3, .q), (4, .q), (5, .q), (6, .q), (7, .q), (8, .q), (9, .q), (10, .q), (11, .q), (12, .q), (13, .q), (14, .q), (15, .q), (16, .q), (17, .q), (18, .q), (19, .q), (20, .l), (21, .q), (22, .q), (23, .q), (24, .q), (25, .q), (26, .q), (27, .q), (28, .q), (29, .q), (30, .q), (31, .t), (32, .p), (33, .p)] (by kernel_rfl) (by kernel_rfl) (by kernel_rfl) (fun d _ _ _ _ h => by cases d <;> exact h) (rfl) ?_
      iterate 20 (refine wpMix_q rfl rfl (fun K hK => ?_); apply Exists.intro; refine ⟨fun w' hw' => ?_, ?_⟩; (focus (go_simp; try rfl)); go_simp; refine hK _ _ ?_; clear hK K)
      refine wpMix_l rfl rfl (fun K hK => ?_)
      go_simp
      refine (CL.out wr.drew).mono ?_
      rintro e w' ⟨rfl, rfl⟩
      dsimp only
      refine hK.out _ _ (rfl) (fun _ => ?_)
      clear hK K
      iterate 1 (refine wpMix_q rfl rfl (fun K hK => ?_); apply Exists.intro; refine ⟨fun w' hw' => ?_, ?_⟩; (focus (go_simp; try rfl)); go_simp; refine hK _ _ ?_; clear hK K)
      iterate 10 (refine wpMix_skip rfl rfl (fun K hK => ?_); go_simp; refine hK _ _ ?_; clear hK K)
      iterate 2 (refine wpMix_p rfl rfl (fun K hK => ?_); apply Exists.intro; refine ⟨fun w' => ?_, ?_⟩; (focus (go_simp; try rfl)); go_simp; refine hK _ _ ?_; clear hK K)
      refine wpMix_nil ?_
      go_wp2
      go_roundg (gk - 1)
      case rel => exact ⟨j + 1, by have := hj.out; show _ = _; omega, by unfold RdA; rw [show a + (j + 1) = p + 1 by have := hp.out; omega, hpc]; exact hR3.out, hF3.out⟩
      case measure => have := hj.out; omega
    ·
     have hjD2 : j = D := by have := hj.out; omega
     subst hjD2
     have hex2 := HEX.out
     rw [hp] at hex2
     have HWHO : Hid (whoL (names.take 64) (ofL ((tl s a).take j)) = whoL (names.take 64) (ofL ((tl s a).take j))) := Hd rfl
     obtain ⟨t, ht⟩ : ∃ t, ofL ((tl s a).take j) = t := ⟨_, rfl⟩
     rw [ht] at hex2 HGG
     have htz : t.size = j := by
      rw [<- ht]
      have : ((tl s a).take j).length = j := by rw [List.length_take, tl_len]; have := HDL.out; omega
      exact this
     have hps : p <= s.size := by have := HDL.out; omega
     have hap : a <= p := by omega
     have htm : t.size <= maxLen := by unfold maxLen; omega
     have hR3 : RdA wr.drew.drew g s mb p 0 0 := hR.out
     have hF3 : Fg g w wr.drew.drew := hfr.trans (Fr.below hbd1.drew)
     have hlook := (HM.out wr.drew.drew hF3).look htm
     have hw64 := fun v h => whoL_lt (l := names.take 64) (s := t) (v := v) h
     obtain ⟨wh, hwh⟩ : ∃ o, whoL (names.take 64) t = o := ⟨_, rfl⟩
     rw [hwh] at hlook HGG
     rw [hwh] at hw64
     have CF := Hd (fail_any g mb p s 6 (a : Int) wr.drew.drew hR3)
     replace hR3 := Hd hR3; replace hF3 := Hd hF3; replace ht := Hd ht; replace hwh := Hd hwh
     have hp2 := Hd hp
     replace htz := Hd htz
     clear hR hfr hbd1 HWHO htm
     by_cases hpz : p < s.size
     ·
      have hpd := HDO.out (by rw [hp]; exact hpz)
      simp only [hp] at hpd
      obtain ⟨v, hv⟩ : ∃ v : Nat, (s[p]'hpz).toNat = v := ⟨_, rfl⟩
      rw [hv, Bool.or_eq_false_iff] at hpd
      have CL := letterS_any (v : Int)
      have CD := digitS_any (v : Int)
      rw [hpd.1] at CL
      rw [hpd.2] at CD
      replace CL := Hd CL; replace CD := Hd CD
      clear hpd hp
      go_wp2
      refine wp_region_mix (S := (fun x => x = wr.drew)) [(0, .q), (1, .q), (2, .q), (3, .q), (4, .q), (5, .q), (6, .q), (7, .q), (8, .q), (9, .q), (10, .q), (11, .q), (12, .q), (13, .q), (14, .q), (15, .q), (16, .q), (17, .q), (18, .q), (19, .q), (20, .l), (21, .q), (22, .q), (23, .q), (24, .q), (25, .q), (26, .q), (27, .q), (28, .q), (29, .q), (30, .q), (31, .t), (32, .p), (33, .p)] (by kernel_rfl) (by kernel_rfl) (by kernel_rfl) (fun d _ _ _ _ h => by cases d <;> exact h) (rfl) ?_
      iterate 20 (refine wpMix_q rfl rfl (fun K hK => ?_); apply Exists.intro; refine ⟨fun w' hw' => ?_, ?_⟩; (focus (go_simp; try rfl)); go_simp; refine hK _ _ ?_; clear hK K)
      refine wpMix_l rfl rfl (fun K hK => ?_)
      go_simp
      refine (CL.out wr.drew).mono ?_
      rintro e w' ⟨rfl, rfl⟩
      dsimp only
      refine hK.out _ _ (rfl) (fun _ => ?_)
      clear hK K
      iterate 10 (refine wpMix_q rfl rfl (fun K hK => ?_); apply Exists.intro; refine ⟨fun w' hw' => ?_, ?_⟩; (focus (go_simp; try rfl)); go_simp; refine hK _ _ ?_; clear hK K)
      refine wpMix_t rfl rfl (fun K hK => ?_)
      go_simp
      refine (CD.out wr.drew).mono ?_
      rintro e w' ⟨rfl, rfl⟩
      dsimp only
      refine hK.out _ _ ?_
      clear hK K
      iterate 2 (refine wpMix_p rfl rfl (fun K hK => ?_); apply Exists.intro; refine ⟨fun w' => ?_, ?_⟩; (focus (go_simp; try rfl)); go_simp; refine hK _ _ ?_; clear hK K)
      refine wpMix_nil ?_
      cases wh with
      | none =>
       have hGe : GG = .bad (s.size - a) 6 := HGG.out
       replace hGe := Hd hGe
       go_wp2
       refine wp_region_mix (S := (fun x => x = wr.drew.drew)) [(0, .q), (1, .q), (2, .q), (3, .q), (4, .q), (5, .q), (6, .q), (7, .q), (8, .q), (9, .q), (10, .q), (11, .q), (12, .q), (13, .q), (14, .q), (15, .p), (16, .p), (17, .p), (18, .p), (19, .p)] (by kernel_rfl) (by kernel_rfl) (by kernel_rfl) (fun d _ _ _ _ h => by cases d <;> exact h) (rfl) ?_
       iterate 15 (refine wpMix_q rfl rfl (fun K hK => ?_); apply Exists.intro; refine ⟨fun w' hw' => ?_, ?_⟩; (focus (go_simp; try rfl)); go_simp; refine hK _ _ ?_; clear hK K)
       iterate 5 (refine wpMix_p rfl rfl (fun K hK => ?_); apply Exists.intro; refine ⟨fun w' => ?_, ?_⟩; (focus (go_simp; try rfl)); go_simp; refine hK _ _ ?_; clear hK K)
       refine wpMix_nil ?_
       go_wp2_with fail
       refine CF.out.mono ?_
       rintro e w1 ⟨rfl, h1, hf⟩
       go_wp2
       go_ret
       exact ⟨0, rfl, by decide, fun v r e => (by cases hGe.out.symm.trans e), by rw [hGe.out]; exact ⟨p, hps, by omega, by decide, by rw [show s.size - (s.size - a) = a by omega]; exact h1⟩, hF3.out.trans hf⟩
      | some u =>
       have hGe : GG = .ok u (tl s (a + j)) := HGG.out
       have hu64 := hw64 u rfl
       replace hGe := Hd hGe; replace hu64 := Hd hu64
       go_wp2
       refine wp_region_mix (S := (fun x => x = wr.drew.drew)) [(0, .q), (1, .q), (2, .q), (3, .q), (4, .q), (5, .q), (6, .q), (7, .q), (8, .q), (9, .q), (10, .q), (11, .q), (12, .q), (13, .q), (14, .q), (15, .p), (16, .p), (17, .p), (18, .p), (19, .p)] (by kernel_rfl) (by kernel_rfl) (by kernel_rfl) (fun d _ _ _ _ h => by cases d <;> exact h) (rfl) ?_
       iterate 15 (refine wpMix_q rfl rfl (fun K hK => ?_); apply Exists.intro; refine ⟨fun w' hw' => ?_, ?_⟩; (focus (go_simp; try rfl)); go_simp; refine hK _ _ ?_; clear hK K)
       iterate 5 (refine wpMix_p rfl rfl (fun K hK => ?_); apply Exists.intro; refine ⟨fun w' => ?_, ?_⟩; (focus (go_simp; try rfl)); go_simp; refine hK _ _ ?_; clear hK K)
       refine wpMix_nil ?_
       go_wp2
       go_ret
       exact ⟨u, rfl, by have := hu64.out; rw [List.length_take] at this; omega, fun v r e => (by injection hGe.out.symm.trans e), by rw [hGe.out]; exact ⟨p, hps, by rw [show a + j = p by have := hp2.out; omega], hR3.out⟩, hF3.out⟩
     ·
      clear hp
      go_wp2
      refine wp_region_mix (S := (fun x => x = wr.drew)) [(0, .q), (1, .q), (2, .q), (3, .q), (4, .q), (5, .q), (6, .q), (7, .q), (8, .q), (9, .q), (10, .q), (11, .q), (12, .q), (13, .q), (14, .q), (15, .q), (16, .q), (17, .q), (18, .q), (19, .q), (20, .l), (21, .q), (22, .q), (23, .q), (24, .q), (25, .q), (26, .q), (27, .q), (28, .q), (29, .q), (30, .q), (31, .t), (32, .p), (33, .p)] (by kernel_rfl) (by kernel_rfl) (by kernel_rfl) (fun d _ _ _ _ h => by cases d <;> exact h) (rfl) ?_
      iterate 11 (refine wpMix_q rfl rfl (fun K hK => ?_); apply Exists.intro; refine ⟨fun w' hw' => ?_, ?_⟩; (focus (go_simp; try rfl)); go_simp; refine hK _ _ ?_; clear hK K)
      iterate 22 (refine wpMix_skip rfl rfl (fun K hK => ?_); go_simp; refine hK _ _ ?_; clear hK K)
      iterate 1 (refine wpMix_p rfl rfl (fun K hK => ?_); apply Exists.intro; refine ⟨fun w' => ?_, ?_⟩; (focus (go_simp; try rfl)); go_simp; refine hK _ _ ?_; clear hK K)
      refine wpMix_nil ?_
      cases wh with
      | none =>
       have hGe : GG = .bad (s.size - a) 6 := HGG.out
       replace hGe := Hd hGe
       go_wp2
       refine wp_region_mix (S := (fun x => x = wr.drew.drew)) [(0, .q), (1, .q), (2, .q), (3, .q), (4, .q), (5, .q), (6, .q), (7, .q), (8, .q), (9, .q), (10, .q), (11, .q), (12, .q), (13, .q), (14, .q), (15, .p), (16, .p), (17, .p), (18, .p), (19, .p)] (by kernel_rfl) (by kernel_rfl) (by kernel_rfl) (fun d _ _ _ _ h => by cases d <;> exact h) (rfl) ?_
       iterate 15 (refine wpMix_q rfl rfl (fun K hK => ?_); apply Exists.intro; refine ⟨fun w' hw' => ?_, ?_⟩; (focus (go_simp; try rfl)); go_simp; refine hK _ _ ?_; clear hK K)
       iterate 5 (refine wpMix_p rfl rfl (fun K hK => ?_); apply Exists.intro; refine ⟨fun w' => ?_, ?_⟩; (focus (go_simp; try rfl)); go_simp; refine hK _ _ ?_; clear hK K)
       refine wpMix_nil ?_
       go_wp2_with fail
       refine CF.out.mono ?_
       rintro e w1 ⟨rfl, h1, hf⟩
       go_wp2
       go_ret
       exact ⟨0, rfl, by decide, fun v r e => (by cases hGe.out.symm.trans e), by rw [hGe.out]; exact ⟨p, hps, by omega, by decide, by rw [show s.size - (s.size - a) = a by omega]; exact h1⟩, hF3.out.trans hf⟩
      | some u =>
       have hGe : GG = .ok u (tl s (a + j)) := HGG.out
       have hu64 := hw64 u rfl
       replace hGe := Hd hGe; replace hu64 := Hd hu64
       go_wp2
       refine wp_region_mix (S := (fun x => x = wr.drew.drew)) [(0, .q), (1, .q), (2, .q), (3, .q), (4, .q), (5, .q), (6, .q), (7, .q), (8, .q), (9, .q), (10, .q), (11, .q), (12, .q), (13, .q), (14, .q), (15, .p), (16, .p), (17, .p), (18, .p), (19, .p)] (by kernel_rfl) (by kernel_rfl) (by kernel_rfl) (fun d _ _ _ _ h => by cases d <;> exact h) (rfl) ?_
       iterate 15 (refine wpMix_q rfl rfl (fun K hK => ?_); apply Exists.intro; refine ⟨fun w' hw' => ?_, ?_⟩; (focus (go_simp; try rfl)); go_simp; refine hK _ _ ?_; clear hK K)
       iterate 5 (refine wpMix_p rfl rfl (fun K hK => ?_); apply Exists.intro; refine ⟨fun w' => ?_, ?_⟩; (focus (go_simp; try rfl)); go_simp; refine hK _ _ ?_; clear hK K)
       refine wpMix_nil ?_
       go_wp2
       go_ret
       exact ⟨u, rfl, by have := hu64.out; rw [List.length_take] at this; omega, fun v r e => (by injection hGe.out.symm.trans e), by rw [hGe.out]; exact ⟨p, hps, by rw [show a + j = p by have := hp2.out; omega], hR3.out⟩, hF3.out⟩
 ·
  have hae : a = s.size := by omega
  have hb : ((a : Int) == (s.size : Int)) = true := by rw [beq_iff_eq]; omega
  have hL : namG names (tl s a) = lost (tl s a) := by unfold namG; rw [if_pos (by rw [tl_end (by omega)]; rfl)]
  replace hae := Hd hae
  clear HM
  have hGe : GG = lost (tl s a) := hGG.out.symm.trans hL
  have CR := Hd (fun W (hW : Below w.heap.size w W) => refuse_any g mb a s W (h.below hW) ha hs)
  have hbd : Below w.heap.size w w.drew := brf.drew
  replace hGe := Hd hGe
  clear h hL
  go_enter Tryz.func161, Tryz.ntmps161
  go_wp2
  refine wp_region_mix (S := (fun x => x = w.drew)) [(0, .q), (1, .q), (2, .q), (3, .q), (4, .q), (5, .q), (6, .q), (7, .q), (8, .q), (9, .q), (10, .q), (11, .q), (12, .q), (13, .q), (14, .q), (15, .q), (16, .q), (17, .q), (18, .q), (19, .q), (20, .t), (21, .p), (22, .p)] (by kernel_rfl) (by kernel_rfl) (by kernel_rfl) (fun d _ _ _ _ h => by cases d <;> exact h) (rfl) ?_
  iterate 11 (refine wpMix_q rfl rfl (fun K hK => ?_); apply Exists.intro; refine ⟨fun w' hw' => ?_, ?_⟩; (focus (go_simp; try rfl)); go_simp; refine hK _ _ ?_; clear hK K)
  iterate 11 (refine wpMix_skip rfl rfl (fun K hK => ?_); go_simp; refine hK _ _ ?_; clear hK K)
  iterate 1 (refine wpMix_p rfl rfl (fun K hK => ?_); apply Exists.intro; refine ⟨fun w' => ?_, ?_⟩; (focus (go_simp; try rfl)); go_simp; refine hK _ _ ?_; clear hK K)
  refine wpMix_nil ?_
  go_wp2_with fail
  refine (CR.out w.drew hbd).mono ?_
  rintro e w1 ⟨rfl, h1, hf⟩
  go_wp2
  go_ret
  exact ⟨0, rfl, by decide, fun v r e => absurd (hGe.out.symm.trans e) fun e => lost_ok e, by rw [hGe.out]; exact lost_unit h1, (Fr.below hbd).trans hf⟩
end Go.Proofs.YtkjnkpkagcboeaaGreatDoor
