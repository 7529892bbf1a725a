/- A map from strings to numbers that a call makes itself: the place of each name in a list. -/
import Derived.Test.YtkjnkpkagcboeaaGreatDoorCg11
import Derived.Test.YtkjnkpkagcboeaaGreatDoorCg10
import Derived.Test.YtkjnkpkagcboeaaGreatDoorCg1
import Derived.Maps.OwnSet
import Derived.Maps.OwnOps
import Derived.StringKeys
import Derived.ChangeMaps5
import Derived.Test.YtkjnkpkagcboeaaGreatDoorCg3
import Derived.Test.YtkjnkpkagcboeaaGreatDoorCg9
set_option linter.all false
set_option maxRecDepth 100000
set_option maxHeartbeats 4000000
namespace Go.Proofs.YtkjnkpkagcboeaaGreatDoor
open Go.RowKit
theorem run_next_rune {P : Program} (w : World) (g : Nat) (s : ByteArray) (pos : Nat) (hi : Itr w g s pos) (h : pos < s.size) :
  ∃ (r : Nat) (n : Nat), (∀ ty : TypeId, (Instr.next (.pointer (some ⟨g, 0, none⟩)) true ty).run P w = .ok (.tuple #[.bool true, .int .i64 pos, .int .i32 (r : Int)]) (setItr w g s (pos + n))) /\ ((s[pos]'h).toNat < 128 -> n = 1 /\ r = (s[pos]'h).toNat) /\ (128 <= (s[pos]'h).toNat -> 128 <= r) := by
 by_cases ha : (s[pos]'h).toNat < 128
 · exact ⟨_, 1, fun ty => run_next_at w g s pos ty hi h ha, fun _ => ⟨rfl, rfl⟩, fun hb => by omega⟩
 ·
  unfold Itr at hi
  refine ⟨(Utf8.decode s pos).1, (Utf8.decode s pos).2, fun ty => ?_, fun h => absurd h ha, fun hb => (decode_high s pos h hb).1⟩
  simp only [Instr.next, getObj, setObj, Sem.run_bind, Sem.run, hi, Result.andThen, h, if_true]
  simp [goInt, setItr]
theorem letV_ascii {c : Nat} (h : letV c = true) : c < 128 := by unfold letV at h; rw [decide_eq_true_eq] at h; omega
theorem digV_ascii {c : Nat} (h : digV c = true) : c < 128 := by unfold digV at h; rw [decide_eq_true_eq] at h; omega
theorem letV_digV (c : Int) : letV c = (!(digV c) && (letV c || digV c)) := by
 rw [Bool.eq_iff_iff]; unfold letV digV; simp; omega
theorem nameV_all (l : List UInt8) (c : UInt8) (r : List UInt8) (h : l = c :: r) : nameV l = (!(digV c.toNat) && l.all wordV) := by
 subst h
 show (letV c.toNat && r.all wordV) = (!(digV c.toNat) && (wordV c && r.all wordV))
 rw [letV_digV, <- Bool.and_assoc]; rfl
theorem nameV_at {s : ByteArray} (h : 0 < s.size) : nameV s.data.toList = (!(digV ((s[0]'h).toNat : Nat)) && s.data.toList.all wordV) := by
 have h' : 0 < s.data.toList.length := by simpa using h
 have e : s.data.toList = s.data.toList[0] :: s.data.toList.drop 1 := by
  have := List.drop_eq_getElem_cons (l := s.data.toList) (i := 0) h'
  simpa using this
 exact nameV_all _ _ _ e
theorem all_bad {s : ByteArray} {pos : Nat} (h : pos < s.size) (hw : wordV (s[pos]'h) = false) : s.data.toList.all wordV = false := by
 rw [List.all_eq_false]; exact ⟨_, List.mem_of_getElem? (get_list h), by simp [hw]⟩
theorem isNameS_any (s : ByteArray) (w : World) (hs : s.size <= 9223372036854775807) :
  Calls Tryz.prog 54 #[.string s] w fun e w' => e = .returned (.bool (nameV s.data.toList)) /\ Below w.heap.size w w' := by
 by_cases h0 : s.size = 0
 ·
  have e := size_zero.1 h0
  subst e
  clear h0 hs
  go_enter Tryz.func54, Tryz.ntmps54
  go_wp2
  go_ret
  exact ⟨rfl, Below.refl _ _⟩
 have hse : s.toList.isEmpty = false := by rw [str_isEmpty]; simp; exact fun e => h0 (size_zero.2 e)
 have hse2 : s.toList ≠ [] := by intro e; rw [e] at hse; cases hse
 have hp : 0 < s.size := by omega
 have hnm := nameV_at hp
 have CD := digitS_any ((s[0]'hp).toNat : Nat) w
 obtain ⟨r, hr⟩ : ∃ r, nameV s.data.toList = r := ⟨_, rfl⟩
 rw [hr] at hnm ⊢
 obtain ⟨b, hb⟩ : ∃ b, digV ((s[0]'hp).toNat : Nat) = b := ⟨_, rfl⟩
 rw [hb] at CD hnm
 replace CD := Hd CD
 clear hb hr h0
 go_enter Tryz.func54, Tryz.ntmps54
 cases b
 ·
  have HN := Hd hnm
  clear hnm
  go_wp2_with fail
  refine CD.out.mono ?_
  rintro e w' ⟨rfl, rfl⟩
  go_wp2
  have hi0 := World.iter_heap w s 0
  have hb0 : Below w.heap.size w (w.iter s 0) := (Below.refl _ w).alloc (nlr _) _
  revert hi0 hb0
  generalize w.iter s 0 = w0
  intro hi0 hb0
  clear CD
  go_loopg [4] s.size (fun g _ wr => ∃ pos : Nat, pos + g = s.size /\ Itr wr w.heap.size s pos /\ Below w.heap.size w wr /\ (s.data.toList.take pos).all wordV = true)
  case atStart => exact ⟨0, by omega, hi0, hb0, rfl⟩
  case round =>
   obtain ⟨pos, hpos, hi, hb, hall⟩ := hrel
   clear hi0 hb0
   have HA := Hd hall
   have HP := Hd hpos
   have hsz := hi.lt
   clear hall
   by_cases hlt : pos < s.size
   ·
    obtain ⟨rr, n, hnx, hn1, hn2⟩ := run_next_rune (P := Tryz.prog) wr w.heap.size s pos hi hlt
    have hw : wordV (s[pos]'hlt) = (letV ((s[pos]'hlt).toNat : Nat) || digV ((s[pos]'hlt).toNat : Nat)) := rfl
    have hgl := get_list hlt
    have hbad := fun h => all_bad (s := s) (pos := pos) hlt h
    have hi2 := hi.set (pos + 1)
    have hb2 : Below w.heap.size w (setItr wr w.heap.size s (pos + n)) := below_setItr hb (nlr _) s _
    by_cases ha : (s[pos]'hlt).toNat < 128
    ·
     obtain ⟨rfl, rfl⟩ := hn1 ha
     obtain ⟨c, hc⟩ : ∃ c, s[pos]'hlt = c := ⟨_, rfl⟩
     rw [hc] at hw hgl hbad hnx ha
     have CL := Hd (letterS_any (c.toNat : Nat))
     have CD := Hd (digitS_any (c.toNat : Nat))
     have hall2 : wordV c = true -> (s.data.toList.take (pos + 1)).all wordV = true := fun h => by rw [take_more hgl, List.all_append, HA.out]; simp [h]
     replace hall2 := Hd hall2; replace hbad := Hd hbad; replace hw := Hd hw
     have h128 : ((c.toNat : Nat) : Int) < 128 := by omega
     have h256 : ((c.toNat : Nat) : Int) % 256 = ((c.toNat : Nat) : Int) := by omega
     obtain ⟨y, hy⟩ : ∃ y : Nat, c.toNat = y := ⟨_, rfl⟩
     rw [hy] at hw CL CD hnx h128 h256
     obtain ⟨w2, hw2⟩ : ∃ W, setItr wr w.heap.size s (pos + 1) = W := ⟨_, rfl⟩
     rw [hw2] at hnx hi2 hb2
     obtain ⟨bl, hbl⟩ : ∃ b, letV (y : Int) = b := ⟨_, rfl⟩
     obtain ⟨bd, hbd⟩ : ∃ b, digV (y : Int) = b := ⟨_, rfl⟩
     have hw3 := hw.out
     rw [hbl, hbd] at hw3
     simp only [hbl] at CL
     simp only [hbd] at CD
     have CL2 := Hd CL.out; have CD2 := Hd CD.out
     replace hbl := Hd hbl; replace hbd := Hd hbd; replace hw3 := Hd hw3
     clear CL CD hn2 hy hc hw2 hw hgl
     cases bl
     ·
      cases bd
      ·
       have hfin := hbad.out (by rw [hw3.out]; rfl)
       have HF := Hd (HN.out.trans (by rw [hfin, Bool.and_false]))
       clear hfin
       go_wp2_with fail
       refine (CL2.out _).mono ?_
       rintro e w' ⟨rfl, rfl⟩
       go_wp2_with fail
       refine (CD2.out _).mono ?_
       rintro e w' ⟨rfl, rfl⟩
       go_wp2
       go_ret
       exact ⟨ret_bool HF.out.symm, hb2⟩
      ·
       have hfin := Hd (hall2.out (by rw [hw3.out]; rfl))
       go_wp2_with fail
       refine (CL2.out _).mono ?_
       rintro e w' ⟨rfl, rfl⟩
       go_wp2_with fail
       refine (CD2.out _).mono ?_
       rintro e w' ⟨rfl, rfl⟩
       go_wp2
       go_roundg (gk - 1)
       case rel => exact ⟨pos + 1, by have := HP.out; omega, hi2, hb2, hfin.out⟩
       case measure => have := HP.out; omega
     ·
      have hfin := Hd (hall2.out (by rw [hw3.out]; rfl))
      go_wp2_with fail
      refine (CL2.out _).mono ?_
      rintro e w' ⟨rfl, rfl⟩
      go_wp2
      go_roundg (gk - 1)
      case rel => exact ⟨pos + 1, by have := HP.out; omega, hi2, hb2, hfin.out⟩
      case measure => have := HP.out; omega
    ·
     have hr128 : (128 : Int) <= (rr : Int) := by have := hn2 (by omega); omega
     have hwf : wordV (s[pos]'hlt) = false := by
      rw [hw, Bool.or_eq_false_iff]
      exact ⟨Bool.eq_false_iff.2 fun h => ha (by simpa using letV_ascii h), Bool.eq_false_iff.2 fun h => ha (by simpa using digV_ascii h)⟩
     have HF := Hd (HN.out.trans (by rw [hbad hwf, Bool.and_false]))
     clear hwf hbad hw hgl hi2 hn1 hn2
     go_wp2
     go_ret
     exact ⟨ret_bool HF.out.symm, hb2⟩
   ·
    have hns := fun ty => run_next_stop (P := Tryz.prog) wr w.heap.size s pos ty hi hlt
    have HF : Hid (r = true) := Hd (HN.out.trans (by
     have := HA.out
     rw [List.take_of_length_le (by have : s.data.toList.length = s.size := by { simp }; omega)] at this
     rw [this]; first | done | rfl))
    go_wp2
    go_ret
    exact ⟨ret_bool HF.out.symm, hb⟩
 ·
  simp at hnm
  subst hnm
  go_wp2_with fail
  refine CD.out.mono ?_
  rintro e w' ⟨rfl, rfl⟩
  go_wp2
  go_ret
  exact ⟨rfl, Below.refl _ _⟩
end Go.Proofs.YtkjnkpkagcboeaaGreatDoor
namespace Go.Proofs.YtkjnkpkagcboeaaGreatDoor
open Go.RowKit Go.Maps Go.WideMaps
theorem keyedS : Keyed Tryz.prog 9 := string_keyed Tryz.underlying9
theorem zeroB (w : World) : (zeroValue 4).run Tryz.prog w = .ok (.bool false) w := by kernel_rfl
def OwnM (w : World) (b n : Nat) (S : ByteArray -> Bool) : Prop :=
 ∃ D : DataW Unit, w.ownsMap Tryz.prog 9 (plainElem Tryz.prog 4) b n D /\ ∀ s : ByteArray, D.atKey (.string s.data.toList) (.lit (.bool false)) = .lit (.bool (S s))
theorem strLit_ne {s t : ByteArray} (h : s ≠ t) : Lit.string s.data.toList ≠ Lit.string t.data.toList := fun e => h (by
 injection e with e
 cases s; cases t
 simp at e
 rw [e])
section
variable {w w' : World} {b n : Nat} {S : ByteArray -> Bool}
theorem OwnM.made (w : World) : OwnM (w.alloc (.map #[] 0)) w.heap.size 0 (fun _ => false) := ⟨.map [], World.ownsMap_made _ _ _ _, fun _ => rfl⟩
theorem OwnM.lt (h : OwnM w b n S) : b < w.heap.size := by obtain ⟨D, h1, _⟩ := h; exact h1.lt
theorem OwnM.look (h : OwnM w b n S) {s : ByteArray} (hs : s.size <= maxLen) : (Instr.lookup 100 (.map (some b)) (.string s) false).run Tryz.prog w = .ok (.bool (S s)) w := by
 obtain ⟨D, h1, h2⟩ := h
 obtain ⟨v, ps, hr, hv⟩ := h1.lookup keyedS Tryz.underlying100 (zeroB w) (plainElem_bool Tryz.underlying4 false) (keyOf_string_mk Tryz.underlying9 hs)
 rw [h2 s] at hv
 rw [hr]
 unfold plainElem at hv
 simp [Tryz.underlying4] at hv
 cases v <;> simp at hv
 rw [hv.1]
end
section
variable {w : World} {b n : Nat} {S : ByteArray -> Bool} {ops : Array Oper} {rest : List Oper} {o : Oper} {a : Act} {Q : Exit -> Act -> World -> Prop}
theorem map_put (hg : o.guard = none) (m x v : Operand) (hop : o.op = Op.mapUpdate 100 m x v) (hm : a.eval m = .map (some b)) (hown : OwnM w b n S) (hn : n < 16777216)
  (s : ByteArray) (hs : s.size <= maxLen) (hx : a.eval x = .string s) (hv : a.eval v = .bool true)
  (hK : ∀ w', OwnM w' b (n + 1) (fun t => decide (t = s) || S t) -> w.grownBy w' (some b) -> wpList Tryz.prog ops Q rest (a.put o.dst undef) w') : wpList Tryz.prog ops Q (o :: rest) a w := by
 obtain ⟨D, h1, h2⟩ := hown
 refine wpList_mapUpdate_own w hg m x v 100 hop 9 4 keyedS Tryz.underlying100 (plainElem Tryz.prog 4) b n D hm h1 (by unfold maxLen; omega) _ _ (.string s.data.toList) hx hv
  (keyOf_string_mk Tryz.underlying9 hs) (.lit (.bool true)) [] (plainElem_bool Tryz.underlying4 true) fun w' r1 r2 => hK w' ⟨_, r1, fun t => ?_⟩ r2
 by_cases he : t = s
 ·
  subst he
  rw [atKey_put_same (h1.isMap) (show WideAt.IsKeyLit (.string _) from trivial)]
  simp
 ·
  rw [atKey_put_other (strLit_ne he), h2 t]
  simp [he]
end
end Go.Proofs.YtkjnkpkagcboeaaGreatDoor
namespace Go.Proofs.YtkjnkpkagcboeaaGreatDoor
open Go.RowKit
def nmB (s : ByteArray) : Bool := nameV s.data.toList
def inB (l : List ByteArray) (s : ByteArray) : Bool := l.any fun t => decide (t = s)
def dupAt (l : List ByteArray) (i : Nat) : Bool := match l[i]? with
 | some s => inB (l.take i) s
 | none => false
def errNm (l : List ByteArray) : Int := if l.all nmB = true then (if (List.range l.length).any (dupAt l) = true then 7 else 0) else 9
theorem errNm_bad {l : List ByteArray} {k : Nat} {s : ByteArray} (h : l[k]? = some s) (hb : nmB s = false) : errNm l = 9 := by
 unfold errNm
 rw [if_neg]
 intro h2
 rw [List.all_eq_true] at h2
 rw [h2 s (List.mem_of_getElem? h)] at hb
 cases hb
theorem errNm_dup {l : List ByteArray} {k : Nat} {s : ByteArray} (ha : l.all nmB = true) (h : l[k]? = some s) (hb : inB (l.take k) s = true) : errNm l = 7 := by
 unfold errNm
 rw [if_pos ha, if_pos]
 rw [List.any_eq_true]
 exact ⟨k, List.mem_range.2 (lt_of_get h), by unfold dupAt; rw [h]; simp [hb]⟩
theorem errNm_good {l : List ByteArray} (ha : l.all nmB = true) (hb : ∀ k s, l[k]? = some s -> inB (l.take k) s = false) : errNm l = 0 := by
 unfold errNm
 rw [if_pos ha, if_neg]
 rw [List.any_eq_true]
 rintro ⟨k, hk, h⟩
 obtain ⟨s, hs⟩ := get_of_lt (List.mem_range.1 hk)
 unfold dupAt at h
 rw [hs] at h
 have h2 : inB (l.take k) s = true := h
 rw [hb k s hs] at h2; cases h2
theorem inB_succ {l : List ByteArray} {k : Nat} {x : ByteArray} (hx : l[k]? = some x) : inB (l.take (k + 1)) = fun t => decide (t = x) || inB (l.take k) t := by
 funext t
 unfold inB
 rw [take_more hx, List.any_append, Bool.or_comm]
 congr 1
 simp only [List.any_cons, List.any_nil, Bool.or_false]
 rw [decide_eq_decide]
 exact eq_comm
theorem fresh_succ {l : List ByteArray} {k : Nat} {x : ByteArray} (h : ∀ j s, j < k -> l[j]? = some s -> inB (l.take j) s = false) (hx : l[k]? = some x) (hn : inB (l.take k) x = false) : ∀ j s, j < k + 1 -> l[j]? = some s -> inB (l.take j) s = false := fun j s hj hs => by
 by_cases e : j = k
 · subst e; rw [hx] at hs; injection hs with hs; subst hs; exact hn
 · exact h j s (by omega) hs
theorem checkS_any (l : List ByteArray) (a : Option Addr) (c : Nat) (w : World) (h : StrsR w a c l) (hz : ∀ s ∈ l, s.size <= 1048576) (hl : l.length <= 1000000) :
  Calls Tryz.prog 26 #[.slice a l.length c] w fun e w' => e = .returned (.int .i64 (errNm l)) /\ Below w.heap.size w w' := by
 have HL := Hd h; have HZ := Hd hz
 clear h hz
 have hmm := @run_makeMap Tryz.prog
 go_enter Tryz.func26, Tryz.ntmps26
 go_wp2
 go_loopg [4, 10] l.length (fun g _ s10 wr => ∃ k : Nat, k + g = l.length /\ s10 = .int .i64 k /\ Hid ((l.take k).all nmB = true) /\ Below w.heap.size w wr)
 case atStart => exact ⟨0, by omega, rfl, rfl, Below.refl _ _⟩
 case round =>
  obtain ⟨k, hk, rfl, hall, hb⟩ := hrel
  have HK := Hd hk
  clear hk
  by_cases hlt : k < l.length
  ·
   obtain ⟨x, hx⟩ := get_of_lt hlt
   obtain ⟨b, o, rfl, hc⟩ := HL.out.2.2 k x hx
   simp only [Nat.mul_one] at hc
   have hc2 := held hc wr hb
   have CN := isNameS_any x wr (by have := HZ.out x (List.mem_of_getElem? hx); omega)
   have hx2 := Hd hx
   have hall2 : nmB x = true -> (l.take (k + 1)).all nmB = true := fun h => by rw [take_more hx, List.all_append, hall.out]; simp [h]
   obtain ⟨bn, hbn⟩ : ∃ b, nameV x.data.toList = b := ⟨_, rfl⟩
   rw [hbn] at CN
   have hnb := Hd (show nmB x = bn from hbn)
   replace CN := Hd CN; replace hall2 := Hd hall2
   clear hbn hx hc
   go_wp2_with fail
   refine CN.out.mono ?_
   rintro e w2 ⟨rfl, hb2⟩
   have hw2 := bth hb hb2
   cases bn
   ·
    have hf := Hd (errNm_bad hx2.out hnb.out)
    go_wp2
    go_ret
    exact ⟨ret_int hf.out.symm, hw2⟩
   ·
    have hf := Hd (hall2.out hnb.out)
    go_wp2
    go_roundg (gk - 1)
    case rel => exact ⟨k + 1, by have := HK.out; omega, by go_num, hf.out, hw2⟩
    case measure => have := HK.out; omega
  ·
   have HA : Hid (l.all nmB = true) := Hd (by have := hall.out; rwa [take_all hlt] at this)
   obtain ⟨wo, rfl⟩ : ∃ wo : World, wo = wr := ⟨_, rfl⟩
   clear hall HK
   go_wp2
   have hm := OwnM.made wo
   have hb0 : Below w.heap.size w (wo.alloc (.map #[] 0)) := hb.alloc hb.size _
   revert hm hb0
   generalize wo.alloc (.map #[] 0) = w0
   intro hm hb0
   obtain ⟨mb, hmb⟩ : ∃ q, wo.heap.size = q := ⟨_, rfl⟩
   have hmw : w.heap.size <= mb := by have := hb.size; omega
   rw [hmb] at hm ⊢
   clear hmb hb hmm
   go_loopg [7, 21] l.length (fun g _ s21 w2 => ∃ j : Nat, j + g = l.length /\ s21 = .int .i64 j /\ OwnM w2 mb j (inB (l.take j)) /\ Hid (∀ i s, i < j -> l[i]? = some s -> inB (l.take i) s = false) /\ Below w.heap.size w w2)
   case atStart => exact ⟨0, by omega, rfl, hm, by intro i s hi; omega, hb0⟩
   case round =>
    clear hm hb0
    obtain ⟨j, hj, rfl, hm, hfr, hb⟩ := hrel
    have HJ := Hd hj
    clear hj
    by_cases hlt : j < l.length
    ·
     obtain ⟨x, hx⟩ := get_of_lt hlt
     obtain ⟨b, o, rfl, hc⟩ := HL.out.2.2 j x hx
     simp only [Nat.mul_one] at hc
     have hc2 := held hc wr hb
     have hxs : x.size <= maxLen := by have := HZ.out x (List.mem_of_getElem? hx); unfold maxLen; omega
     have hlook := hm.look hxs
     have hsu := Hd (inB_succ hx)
     have hx2 := Hd hx
     have HM := Hd hm
     have hml := hm.lt
     obtain ⟨bi, hbi⟩ : ∃ q, inB (l.take j) x = q := ⟨_, rfl⟩
     rw [hbi] at hlook
     have hbi2 := Hd hbi
     clear hbi hx hc hm
     cases bi
     ·
      have hf2 := Hd (fresh_succ hfr.out hx2.out hbi2.out)
      go_wp2_with (at_mapUpdate; go_must (refine map_put rfl (.tmp 28) (.tmp 29) (.const (.bool true)) rfl rfl HM.out (by omega) x hxs rfl rfl ?_); intro w2 hm2 hg2)
      rw [<- hsu.out] at hm2
      have hw2 : Below w.heap.size w w2 := hb.grown hg2 hb.size (fun k hk => by injection hk with hk; omega)
      go_roundg (gk - 1)
      case rel => exact ⟨j + 1, by have := HJ.out; omega, by go_num, hm2, hf2.out, hw2⟩
      case measure => have := HJ.out; omega
     ·
      have hf := Hd (errNm_dup HA.out hx2.out hbi2.out)
      go_wp2
      go_ret
      exact ⟨ret_int hf.out.symm, hb⟩
    ·
     have hf := Hd (errNm_good HA.out fun i s hs => hfr.out i s (by have := lt_of_get hs; omega) hs)
     go_wp2
     go_ret
     exact ⟨ret_int hf.out.symm, hb⟩
theorem varsI_last (p : List Trm) : ∀ (i : Nat) (v : Int), (varsI p i)[(varsI p i).length - 1]? = some v -> v ∈ varsI p i /\ ∀ u ∈ varsI p i, u <= v
 | 0, v, h => by simp [varsI] at h
 | i + 1, v, h => by
  rw [varsI_succ] at h ⊢
  by_cases hs : seenB p i = true
  ·
   rw [if_pos hs] at h ⊢
   simp at h
   subst h
   refine ⟨by simp, fun u hu => ?_⟩
   rcases List.mem_append.1 hu with hu | hu
   · have := varsI_in p i u hu; omega
   · simp at hu; omega
  ·
   rw [if_neg hs] at h ⊢
   exact varsI_last p i v h
theorem varsI_mem {p : List Trm} {i v : Nat} (hv : v < i) (hs : seenB p v = true) : (v : Int) ∈ varsI p i := by
 unfold varsI
 exact List.mem_map.2 ⟨v, List.mem_filter.2 ⟨List.mem_range.2 hv, hs⟩, rfl⟩
theorem varsI_seen {p : List Trm} {i : Nat} {u : Int} (h : u ∈ varsI p i) : ∃ v : Nat, u = v /\ seenB p v = true := by
 unfold varsI at h
 obtain ⟨v, hv, rfl⟩ := List.mem_map.1 h
 exact ⟨v, rfl, (List.mem_filter.1 hv).2⟩
def bigB (l : List Trm) (n : Nat) : Bool := l.any fun t => decide (n < t.mono.length)
theorem expAt_lt {m : List Int} {v : Nat} (h : expAt m v ≠ 0) : v < m.length := by
 apply Nat.lt_of_not_le
 intro hc
 apply h
 unfold expAt; rw [List.getD_eq_getElem?_getD, List.getElem?_eq_none hc]; rfl
theorem bigB_last {l : List Trm} {n : Nat} {v : Int} (hm : ∀ t ∈ l, monoB t.mono = true) (h : (varsI l 64)[(varsI l 64).length - 1]? = some v) : bigB l n = decide ((n : Int) <= v) := by
 obtain ⟨h1, h2⟩ := varsI_last l 64 v h
 rw [Bool.eq_iff_iff, decide_eq_true_eq]
 unfold bigB
 rw [List.any_eq_true]
 constructor
 ·
  rintro ⟨t, ht, hb⟩
  have hb' : n < t.mono.length := by simpa using hb
  have hmt := hm t ht
  have hme := monoB_mem hmt
  have hne : expAt t.mono (t.mono.length - 1) ≠ 0 := by
   intro e0
   have hlt : t.mono.length - 1 < t.mono.length := by omega
   obtain ⟨x, hx⟩ := get_of_lt hlt
   have hx0 : x = 0 := by unfold expAt at e0; rw [List.getD_eq_getElem?_getD, hx] at e0; exact e0
   rw [monoB_last (by rw [hx, hx0])] at hmt
   cases hmt
  have := h2 _ (varsI_mem (p := l) (i := 64) (v := t.mono.length - 1) (by omega) (by unfold seenB; rw [List.any_eq_true]; exact ⟨t, ht, by simp [hne]⟩))
  omega
 ·
  intro hn
  obtain ⟨u, rfl, hs⟩ := varsI_seen h1
  unfold seenB at hs
  rw [List.any_eq_true] at hs
  obtain ⟨t, ht, hx⟩ := hs
  have := expAt_lt (m := t.mono) (v := u) (by simpa using hx)
  exact ⟨t, ht, by simp; omega⟩
theorem bigB_none {l : List Trm} {n : Nat} (hm : ∀ t ∈ l, monoB t.mono = true) (h : (varsI l 64).length = 0) : bigB l n = false := by
 rw [Bool.eq_false_iff]
 intro hb
 unfold bigB at hb
 rw [List.any_eq_true] at hb
 obtain ⟨t, ht, hb⟩ := hb
 have hb' : n < t.mono.length := by simpa using hb
 have hmt := hm t ht
 have hme := monoB_mem hmt
 have hne : expAt t.mono (t.mono.length - 1) ≠ 0 := by
  intro e0
  obtain ⟨x, hx⟩ := get_of_lt (show t.mono.length - 1 < t.mono.length by omega)
  have hx0 : x = 0 := by unfold expAt at e0; rw [List.getD_eq_getElem?_getD, hx] at e0; exact e0
  rw [monoB_last (by rw [hx, hx0])] at hmt
  cases hmt
 have := varsI_mem (p := l) (i := 64) (v := t.mono.length - 1) (by omega) (by unfold seenB; rw [List.any_eq_true]; exact ⟨t, ht, by simp [hne]⟩)
 rw [List.length_eq_zero_iff] at h
 rw [h] at this
 cases this
theorem polyB_terms {l : List Trm} (h : polyB l = true) : ∀ t ∈ l, t.coef.right = true /\ monoB t.mono = true := fun t ht => by
 obtain ⟨i, hi⟩ := List.getElem?_of_mem ht
 have hil := (List.getElem?_eq_some_iff.1 hi).1
 unfold polyB at h
 rw [List.all_eq_true] at h
 have := h i (List.mem_range.2 hil)
 have ho := badAt_ok hi (by simpa using this)
 unfold okT at ho
 simp only [Bool.and_eq_true] at ho
 exact ⟨ho.1.1, ho.2⟩
def signP (k : Nat) (q : Rat) : ByteArray := if k = 0 then (if q < 0 then ⟨#[45]⟩ else ⟨#[]⟩) else if q < 0 then ⟨#[32, 45, 32]⟩ else ⟨#[32, 43, 32]⟩
def polyTo (l : List Trm) (names : List ByteArray) : Nat -> ByteArray
 | 0 => ⟨#[]⟩
 | k + 1 => match l[k]? with
  | some t => polyTo l names k ++ signP k t.coef.q ++ termB t.coef.q t.mono names
  | none => polyTo l names k
theorem polyTo_succ {l : List Trm} {names : List ByteArray} {k : Nat} {t : Trm} (h : l[k]? = some t) : polyTo l names (k + 1) = polyTo l names k ++ signP k t.coef.q ++ termB t.coef.q t.mono names := by rw [polyTo, h]
def printP (l : List Trm) (names : List ByteArray) : ByteArray × Int :=
 if polyB l = true then if errNm names = 0 then if bigB l names.length = true then (⟨#[]⟩, 6) else if l.length = 0 then (⟨#[48]⟩, 0) else (polyTo l names l.length, 0) else (⟨#[]⟩, errNm names) else (⟨#[]⟩, 1)
theorem signP_size (k : Nat) (q : Rat) : (signP k q).size <= 3 := by unfold signP; split <;> split <;> simp [ByteArray.size]
theorem polyTo_size {l : List Trm} {names : List ByteArray} {M : Nat} (h : ∀ t ∈ l, (termB t.coef.q t.mono names).size <= M) : ∀ k, (polyTo l names k).size <= k * (M + 3)
 | 0 => by simp [polyTo, ByteArray.size]
 | k + 1 => by
  have ih := polyTo_size h k
  rw [polyTo]
  split
  ·
   next t ht =>
   have h1 := h t (List.mem_of_getElem? ht)
   have h2 := signP_size k t.coef.q
   rw [ByteArray.size_append, ByteArray.size_append, Nat.succ_mul]
   omega
  · rw [Nat.succ_mul]; omega
inductive Got (α : Type) where
 | ok (v : α) (r : List UInt8)
 | bad (k : Nat) (e : Int)
def Got.bnd {α β : Type} (g : Got α) (f : α -> List UInt8 -> Got β) : Got β := match g with
 | .ok v r => f v r
 | .bad k e => .bad k e
def lost {α : Type} (l : List UInt8) : Got α := if l.length = 0 then .bad 0 10 else .bad l.length 9
def digU (c : UInt8) : Bool := digV c.toNat
def letU (c : UInt8) : Bool := letV c.toNat
def numL : List UInt8 -> Nat
 | [] => 0
 | c :: r => if digU c = true then (if c = 48 then 1 else 1 + (r.takeWhile digU).length) else 0
def decL (l : List UInt8) : Nat := l.foldl (fun a c => 10 * a + (c.toNat - 48)) 0
def numG (l : List UInt8) : Got (List UInt8) := if numL l = 0 then lost l else if 1000 < numL l then .bad l.length 4 else .ok (l.take (numL l)) (l.drop (numL l))
def namL : List UInt8 -> Nat
 | [] => 0
 | c :: r => if letU c = true then 1 + (r.takeWhile wordV).length else 0
def whoV (names : List ByteArray) (s : List UInt8) : Option Nat := (names.take 64).findIdx? fun x => decide (x = ofL s)
def namG (names : List ByteArray) (l : List UInt8) : Got Nat := if namL l = 0 then lost l else match whoV names (l.take (namL l)) with
 | none => .bad l.length 6
 | some v => .ok v (l.drop (namL l))
def powG (names : List ByteArray) (l : List UInt8) : Got (Nat × Int) := (namG names l).bnd fun v r => if r[0]? = some 94 then (numG (r.drop 1)).bnd fun d r2 => if 1048576 < decL d then .bad (r.drop 1).length 4 else .ok (v, decL d) r2 else .ok (v, 1) r
def putM (m : List Int) (p : Nat × Int) : List Int := m.set p.1 (expAt m p.1 + p.2)
def proG (names : List ByteArray) (F : Nat) : Nat -> List Int -> List UInt8 -> Got (List Int)
 | 0, _, _ => .bad 0 4
 | n + 1, m, l => (powG names l).bnd fun p r => if 1048576 < expAt m p.1 + p.2 then .bad F 4 else if r[0]? = some 42 then proG names F n (putM m p) (r.drop 1) else .ok (putM m p) r
def zerM : List Int := List.replicate 64 0
def cutM (m : List Int) : List Int := (m.reverse.dropWhile fun x => decide (x = 0)).reverse
def cofG (l : List UInt8) : Got Rat := (numG l).bnd fun p r => if r[0]? = some 47 then (numG (r.drop 1)).bnd fun q r2 => if decL q = 0 then .bad (r.drop 1).length 3 else .ok (qv false (decL p) (decL q)) r2 else .ok (qv false (decL p) 1) r
def monG (names : List ByteArray) (F : Nat) (q : Rat) (l : List UInt8) : Got (Rat × List Int) := (proG names F (l.length + 1) zerM l).bnd fun m r => .ok (q, cutM m) r
def terG (names : List ByteArray) (l : List UInt8) : Got (Rat × List Int) := if numL l = 0 then monG names l.length 1 l else (cofG l).bnd fun q r => if r[0]? = some 42 then monG names l.length q (r.drop 1) else .ok (q, []) r
def eatG (c : UInt8) (l : List UInt8) : Got Unit := if l[0]? = some c then .ok () (l.drop 1) else lost l
def sepG (l : List UInt8) : Got Bool := (eatG 32 l).bnd fun _ r => if r[0]? = some 45 then (eatG 32 (r.drop 1)).bnd fun _ r' => .ok true r' else (eatG 43 r).bnd fun _ r1 => (eatG 32 r1).bnd fun _ r2 => .ok false r2
def sgnT (neg : Bool) (t : Rat × List Int) : Rat × List Int := (if neg = true then -t.1 else t.1, t.2)
def sumG (names : List ByteArray) : Nat -> Bool -> List (Rat × List Int) -> List UInt8 -> Got (List (Rat × List Int))
 | 0, _, _, _ => .bad 0 4
 | f + 1, neg, acc, l => if acc.length = 4000 then .bad l.length 4 else (terG names l).bnd fun t r => if r.length = 0 then .ok (acc ++ [sgnT neg t]) r else (sepG r).bnd fun ng r' => sumG names f ng (acc ++ [sgnT neg t]) r'
def reaG (names : List ByteArray) (l : List UInt8) : Got (List (Rat × List Int)) := if l[0]? = some 45 then sumG names (l.length + 1) true [] (l.drop 1) else sumG names (l.length + 1) false [] l
theorem decL_snoc (l : List UInt8) (c : UInt8) : decL (l ++ [c]) = 10 * decL l + (c.toNat - 48) := by unfold decL; rw [List.foldl_append]; rfl
theorem dig_nat {d : Nat} (h : d < 10) : (48 + d).toUInt8.toNat = 48 + d := by
 rw [Nat.toUInt8, UInt8.toNat_ofNat']; omega
theorem decL_digs (n : Nat) : decL (digs n) = n := by
 induction n using Nat.strongRecOn with
 | _ n ih =>
  by_cases h : n = 0
  · subst h; rw [digs_zero]; rfl
  ·
   rw [digs_pos h, decL_snoc, ih (n / 10) (by omega), dig_nat (Nat.mod_lt n (by omega)), Nat.add_sub_cancel_left, Nat.mul_comm, Nat.add_comm]
   exact Nat.mod_add_div' n 10
theorem digU_dig {d : Nat} (h : d < 10) : digU (48 + d).toUInt8 = true := by
 unfold digU digV; rw [dig_nat h]; simp; omega
theorem digs_all (n : Nat) : ∀ c ∈ digs n, digU c = true := by
 induction n using Nat.strongRecOn with
 | _ n ih =>
  by_cases h : n = 0
  · subst h; rw [digs_zero]; intro c hc; cases hc
  ·
   rw [digs_pos h]
   intro c hc
   rcases List.mem_append.1 hc with hc | hc
   · exact ih (n / 10) (by omega) c hc
   · rw [List.mem_singleton] at hc; subst hc; exact digU_dig (Nat.mod_lt n (by omega))
theorem decL_text (n : Nat) : decL (textN n) = n := by
 unfold textN
 split
 · next h => subst h; rfl
 · exact decL_digs n
def facL (names : List ByteArray) (p : Nat × Int) : List UInt8 := if p.2 = 1 then (nameA names p.1).data.toList else (nameA names p.1).data.toList ++ 94 :: textN p.2.toNat
def facsL (names : List ByteArray) : List (Nat × Int) -> List UInt8
 | [] => []
 | p :: r => facL names p ++ r.flatMap fun q => 42 :: facL names q
theorem putM_len (m : List Int) (p : Nat × Int) : (putM m p).length = m.length := by simp [putM]
def prsF (f : Nat -> Int) (vs : List Nat) : List (Nat × Int) := (vs.map fun v => (v, f v)).filter fun p => decide (0 < p.2)
theorem prsF_cons (f : Nat -> Int) (v : Nat) (vs : List Nat) : prsF f (v :: vs) = if 0 < f v then (v, f v) :: prsF f vs else prsF f vs := by
 unfold prsF
 rw [List.map_cons, List.filter_cons]
 by_cases h : 0 < f v
 · rw [if_pos (by simpa using h), if_pos h]
 · rw [if_neg (by simpa using h), if_neg h]
theorem cutM_zeros (a : List Int) : ∃ z, a = cutM a ++ z /\ (∀ x ∈ z, x = 0) /\ (cutM a)[(cutM a).length - 1]? ≠ some 0 := by
 have h := List.takeWhile_append_dropWhile (p := fun x : Int => decide (x = 0)) (l := a.reverse)
 refine ⟨(a.reverse.takeWhile fun x => decide (x = 0)).reverse, ?_, fun x hx => ?_, ?_⟩
 ·
  unfold cutM
  rw [<- List.reverse_append, h, List.reverse_reverse]
 ·
  rw [List.mem_reverse] at hx
  have := List.all_eq_true.1 (List.all_takeWhile (p := fun x : Int => decide (x = 0)) (l := a.reverse)) x hx
  simpa using this
 ·
  unfold cutM
  intro e
  rw [<- List.getLast?_eq_getElem?, List.getLast?_reverse] at e
  have hh := List.head?_dropWhile_not (fun x : Int => decide (x = 0)) a.reverse
  rw [e] at hh
  simp at hh
def prsM (m : List Int) : List (Nat × Int) := prsF (expAt m) (List.range m.length)
theorem ofL_list (l : List UInt8) : (ofL l).data.toList = l := by unfold ofL; simp
theorem facP_list (names : List ByteArray) (v : Nat) (x : Int) : (facP names v x).map (·.data.toList) = if 0 < x then [facL names (v, x)] else [] := by
 unfold facP facL
 by_cases h1 : x = 1
 · rw [if_pos h1, if_pos (by omega), if_pos h1]; rfl
 ·
  rw [if_neg h1]
  by_cases h2 : 1 < x
  ·
   rw [if_pos h2, if_pos (by omega), if_neg h1]
   simp [ByteArray.data_append, ofL_list]
  · rw [if_neg h2, if_neg (by omega)]; rfl
theorem facs_list (names : List ByteArray) (f : Nat -> Int) : ∀ vs : List Nat, (vs.flatMap fun v => facP names v (f v)).map (·.data.toList) = (prsF f vs).map (facL names)
 | [] => rfl
 | v :: vs => by
  rw [List.flatMap_cons, List.map_append, facP_list, facs_list names f vs, prsF_cons]
  split <;> simp
theorem joinTail_flat (r : List (List UInt8)) : Lib.joinTail [42] r = r.flatMap fun x => 42 :: x := by
 unfold Lib.joinTail
 induction r with
 | nil => rfl
 | cons x r ih => rw [List.map_cons, List.flatten_cons, List.flatMap_cons, ih]; rfl
def termL (names : List ByteArray) (q : Rat) (m : List Int) : List UInt8 := if m.length = 0 \/ absQ q ≠ 1 then textQ (absQ q) ++ (prsM m).flatMap fun p => 42 :: facL names p else facsL names (prsM m)
theorem termB_list (names : List ByteArray) (q : Rat) (m : List Int) : (termB q m names).data.toList = termL names q m := by
 have e : (termB q m names).data.toList = Lib.join ((partsT q m names m.length).map (·.data.toList)) [42] := ofL_list _
 rw [e]
 unfold partsT cofP termL
 rw [List.map_append, facs_list]
 change Lib.join (_ ++ (prsM m).map (facL names)) [42] = _
 split
 · rw [List.map_cons, List.map_nil, List.singleton_append, Lib.join_cons, joinTail_flat, ofL_list, List.flatMap_map]
 ·
  rw [List.map_nil, List.nil_append]
  generalize prsM m = l
  cases l with
  | nil => rfl
  | cons p r => rw [List.map_cons, Lib.join_cons, joinTail_flat, List.flatMap_map]; rfl
def trmQ (t : Trm) : Rat × List Int := (t.coef.q, t.mono)
def sepL (q : Rat) : List UInt8 := if q < 0 then [32, 45, 32] else [32, 43, 32]
def tailL (names : List ByteArray) (l : List Trm) : List UInt8 := l.flatMap fun t => sepL t.coef.q ++ termL names t.coef.q t.mono
def bodyL (names : List ByteArray) : List Trm -> List UInt8
 | [] => []
 | t :: r => (if t.coef.q < 0 then [45] else []) ++ (termL names t.coef.q t.mono ++ tailL names r)
theorem polyTo_list (names : List ByteArray) (t : Trm) (r : List Trm) : ∀ k, k <= r.length -> (polyTo (t :: r) names (k + 1)).data.toList ++ tailL names (r.drop k) = bodyL names (t :: r)
 | 0, _ => by
  rw [polyTo_succ (t := t) rfl]
  unfold bodyL signP polyTo
  rw [if_pos rfl, List.drop_zero]
  simp only [ByteArray.data_append, Array.toList_append, termB_list]
  split <;> simp
 | k + 1, h => by
  have hk : k < r.length := by omega
  have ih := polyTo_list names t r k (by omega)
  rw [List.drop_eq_getElem_cons hk] at ih
  rw [polyTo_succ (t := r[k]) (by rw [List.getElem?_cons_succ, List.getElem?_eq_getElem hk])]
  rw [<- ih]
  unfold signP tailL sepL
  rw [if_neg (by omega)]
  simp only [ByteArray.data_append, Array.toList_append, termB_list, List.flatMap_cons, List.append_assoc]
  split <;> simp
theorem polyTo_all (names : List ByteArray) (l : List Trm) : (polyTo l names l.length).data.toList = bodyL names l := by
 cases l with
 | nil => rfl
 | cons t r =>
  have := polyTo_list names t r r.length (nlr _)
  rw [List.drop_length] at this
  simpa [tailL] using this
def oneP (t : Tm) : List Tm := if t.1 = 0 then [] else [t]
def normP (l : List Tm) : List Tm := l.foldl (fun p t => addP p (oneP t)) []
theorem oneP_ok {B : Int} {t : Tm} (h : Mok B t.2) : Pok B (oneP t) := by
 unfold oneP
 split
 · exact Pok.nil B
 · next h0 => exact (Pok.nil B).cons h h0 fun s hs => by cases hs
theorem oneP_coef (t : Tm) (m : List Int) : coefP (oneP t) m = if t.2 = m then t.1 else 0 := by
 unfold oneP
 split
 · next h => rw [h]; simp [coefP]
 · rw [coefP_cons]; simp [coefP, Rat.add_zero]
theorem normP_from {B : Int} : ∀ (l p : List Tm), Pok B p -> (∀ t ∈ l, Mok B t.2) -> Pok B (l.foldl (fun p t => addP p (oneP t)) p) /\ ∀ m, coefP (l.foldl (fun p t => addP p (oneP t)) p) m = coefP p m + coefP l m
 | [], p, hp, _ => ⟨hp, fun m => by simp [coefP, Rat.add_zero]⟩
 | t :: l, p, hp, hl => by
  have h1 := oneP_ok (hl t (by simp))
  obtain ⟨h2, h3⟩ := normP_from l _ (addP_ok hp h1) fun x hx => hl x (by simp [hx])
  refine ⟨h2, fun m => ?_⟩
  rw [List.foldl_cons, h3, coefP_add hp.1 h1.1, oneP_coef, coefP_cons, Rat.add_assoc]
theorem normP_ok {B : Int} {l : List Tm} (h : ∀ t ∈ l, Mok B t.2) : Pok B (normP l) /\ ∀ m, coefP (normP l) m = coefP l m := by
 obtain ⟨h1, h2⟩ := normP_from l [] (Pok.nil B) h
 exact ⟨h1, fun m => by unfold normP; rw [h2]; simp [coefP, Rat.zero_add]⟩
theorem sumC_ones : ∀ (l : List Tm) (m : List Int), sumC ((l.filter fun t => !(decide (t.1 = 0))).map fun t => [t]) m = coefP l m
 | [], m => rfl
 | t :: l, m => by
  rw [List.filter_cons, coefP_cons, <- sumC_ones l m]
  by_cases h : t.1 = 0
  · rw [if_neg (by simp [h]), h]; simp [Rat.zero_add]
  ·
   rw [if_pos (by simp [h]), List.map_cons, sumC, coefP_cons]
   simp [coefP, Rat.add_zero]
theorem normP_halves {B : Int} {l : List Tm} (h : ∀ t ∈ l, Mok B t.2) : halvesP ((l.filter fun t => !(decide (t.1 = 0))).map fun t => [t]) = normP l := by
 obtain ⟨h1, h2⟩ := normP_ok h
 have h5 : ∀ p ∈ (l.filter fun t => !(decide (t.1 = 0))).map fun t => [t], Pok B p := fun p hp => by
  obtain ⟨t, ht, rfl⟩ := List.mem_map.1 hp
  rw [List.mem_filter] at ht
  exact (Pok.nil B).cons (h t ht.1) (by simpa using ht.2) fun s hs => by cases hs
 obtain ⟨h3, h4⟩ := halvesP_ok _ h5
 exact pok_ext h3 h1 fun m => by rw [h4, h2, sumC_ones]
def readP (names : List ByteArray) (s : List UInt8) : Got (List Tm) := (reaG names s).bnd fun l r => .ok (normP l) r
def tailT (names : List ByteArray) (p : List Tm) : List UInt8 := p.flatMap fun t => sepL t.1 ++ termL names t.1 t.2
def bodyT (names : List ByteArray) : List Tm -> List UInt8
 | [] => [48]
 | t :: r => (if t.1 < 0 then [45] else []) ++ (termL names t.1 t.2 ++ tailT names r)
def bigT (p : List Tm) (n : Nat) : Bool := p.any fun t => decide (n < t.2.length)
def printT (names : List ByteArray) (p : List Tm) : List UInt8 × Int := if errNm names = 0 then if bigT p names.length = true then ([], 6) else (bodyT names p, 0) else ([], errNm names)
theorem tailT_of (names : List ByteArray) (l : List Trm) : tailL names l = tailT names (l.map trmQ) := by
 unfold tailL tailT; rw [List.flatMap_map]; rfl
theorem bodyT_of (names : List ByteArray) (l : List Trm) : (if l.length = 0 then [48] else bodyL names l) = bodyT names (l.map trmQ) := by
 cases l with
 | nil => rfl
 | cons t r =>
  rw [if_neg (by simp), bodyL, tailT_of]
  rfl
theorem bigT_of (l : List Trm) (n : Nat) : bigB l n = bigT (l.map trmQ) n := by unfold bigB bigT; rw [List.any_map]; rfl
theorem printT_of {names : List ByteArray} {l : List Trm} (h : polyB l = true) : printP l names = (ofL (printT names (l.map trmQ)).1, (printT names (l.map trmQ)).2) := by
 unfold printP printT
 rw [if_pos h, <- bigT_of, <- bodyT_of]
 split
 ·
  split
  · rfl
  ·
   split
   · rfl
   ·
    refine Prod.ext ?_ rfl
    apply ba_ext
    rw [polyTo_all, ofL_list]
 · rfl
def polC (names : List ByteArray) (s : List UInt8) : Option (List Tm) × Int :=
 if errNm names = 0 then match readP names s with
  | .bad _ e => (none, e)
  | .ok p _ => if printT names p = (s, 0) then (some p, 0) else (none, 9)
 else (none, errNm names)
theorem polC_form {names : List ByteArray} {s : List UInt8} {p : List Tm} {e : Int} (h : polC names s = (some p, e)) : e = 0 /\ printT names p = (s, 0) /\ ∃ r, readP names s = .ok p r := by
 unfold polC at h
 split at h
 ·
  split at h
  · cases h
  ·
   next p' r hr =>
   split at h
   ·
    next hp =>
    injection h with a b
    injection a with a
    subst a
    exact ⟨b.symm, hp, r, hr⟩
   · cases h
 · cases h
def cutL (b : UInt8) : List UInt8 -> Option (List UInt8 × List UInt8)
 | [] => none
 | c :: r => if c = b then some ([], r) else (cutL b r).map fun p => (c :: p.1, p.2)
theorem cutL_some (b : UInt8) : ∀ (l t r : List UInt8), cutL b l = some (t, r) -> l = t ++ b :: r /\ ∀ c ∈ t, c ≠ b
 | [], _, _, h => by cases h
 | c :: l, t, r, h => by
  rw [cutL] at h
  split at h
  ·
   next hc =>
   injection h with h
   injection h with h1 h2
   subst h1 h2 hc
   exact ⟨rfl, fun x hx => by cases hx⟩
  ·
   next hc =>
   cases hl : cutL b l with
   | none => rw [hl] at h; cases h
   | some p =>
    rw [hl] at h
    injection h with h
    injection h with h1 h2
    obtain ⟨g1, g2⟩ := cutL_some b l p.1 p.2 hl
    subst h1 h2
    refine ⟨by rw [List.cons_append, <- g1], fun x hx => ?_⟩
    rcases List.mem_cons.1 hx with e | e
    · subst e; exact hc
    · exact g2 x e
def numC (least : Nat) (s : List UInt8) : Option Nat := (List.range 65).find? fun n => decide (least <= n) && decide (textN n = s)
theorem textN_inj {n m : Nat} (h : textN n = textN m) : n = m := by rw [<- decL_text n, h, decL_text]
theorem numC_text {least n : Nat} (h : least <= n) (hn : n <= 64) : numC least (textN n) = some n := by
 unfold numC
 rw [List.find?_eq_some_iff_getElem]
 refine ⟨by simp [h], n, by simp; omega, by simp, fun j hj => ?_⟩
 simp only [List.getElem_range, Bool.not_eq_true', Bool.and_eq_false_iff, decide_eq_false_iff_not]
 exact .inr fun e => by have := textN_inj e; omega
theorem numC_some {least n : Nat} {s : List UInt8} (h : numC least s = some n) : least <= n /\ n <= 64 /\ textN n = s := by
 unfold numC at h
 have h1 := List.find?_some h
 have h2 := List.mem_of_find?_eq_some h
 rw [List.mem_range] at h2
 simp only [Bool.and_eq_true, decide_eq_true_eq] at h1
 exact ⟨h1.1, by omega, h1.2⟩
def lnF (names : List ByteArray) (p : List Trm) (x : Int) : ByteArray := ⟨#[102, 97, 99, 116, 111, 114, 32]⟩ ++ ofL (textN x.toNat) ++ ⟨#[32]⟩ ++ (printP p names).1
def lnC (names : List ByteArray) (p : List Trm) : ByteArray := ⟨#[99, 111, 102, 97, 99, 116, 111, 114, 32]⟩ ++ (printP p names).1
def ln0 (n : Int) : ByteArray := ⟨#[112, 111, 119, 101, 114, 32]⟩ ++ ofL (textN n.toNat)
def lnsF (names : List ByteArray) (F : List (List Trm)) (P : List Int) (n : Int) (k : Nat) : List ByteArray := ln0 n :: (List.range k).map fun i => lnF names (F.getD i []) (P.getD i 0)
def lnsC (names : List ByteArray) (F C : List (List Trm)) (P : List Int) (n : Int) (k : Nat) : List ByteArray := lnsF names F P n F.length ++ (List.range k).map fun i => lnC names (C.getD i [])
theorem lnsF_succ {names : List ByteArray} {F : List (List Trm)} {P : List Int} {n : Int} {k : Nat} {p : List Trm} {x : Int} (h : F[k]? = some p) (h' : P[k]? = some x) : lnsF names F P n (k + 1) = lnsF names F P n k ++ [lnF names p x] := by
 unfold lnsF
 rw [List.range_succ, List.map_append]
 simp [h, h']
theorem lnsC_zero (names : List ByteArray) (F C : List (List Trm)) (P : List Int) (n : Int) : lnsC names F C P n 0 = lnsF names F P n F.length := by simp [lnsC]
theorem lnsC_succ {names : List ByteArray} {F C : List (List Trm)} {P : List Int} {n : Int} {k : Nat} {p : List Trm} (h : C[k]? = some p) : lnsC names F C P n (k + 1) = lnsC names F C P n k ++ [lnC names p] := by
 unfold lnsC
 rw [List.range_succ, List.map_append]
 simp [h]
theorem lnsF_len (names : List ByteArray) (F : List (List Trm)) (P : List Int) (n : Int) (k : Nat) : (lnsF names F P n k).length = k + 1 := by simp [lnsF]
theorem lnsC_len (names : List ByteArray) (F C : List (List Trm)) (P : List Int) (n : Int) (k : Nat) : (lnsC names F C P n k).length = F.length + 1 + k := by simp [lnsC, lnsF]; omega
def nlB : ByteArray := ⟨#[10]⟩
def catL (l : List ByteArray) : ByteArray := ofL (l.flatMap fun x => x.data.toList ++ [10])
theorem catL_join (l : List ByteArray) (h : l ≠ []) : joinB l nlB ++ nlB = catL l := by
 cases l with
 | nil => exact absurd rfl h
 | cons x r =>
  apply ba_ext
  unfold catL ofL joinB nlB
  rw [List.map_cons, Lib.join_cons]
  unfold Lib.joinTail
  simp only [ByteArray.data_append, Array.toList_append, List.flatMap_cons, List.append_assoc]
  congr 1
  clear h
  induction r with
  | nil => rfl
  | cons y t ih =>
   simp only [List.map_cons, List.flatten_cons, List.flatMap_cons, List.append_assoc] at ih ⊢
   rw [ih]
   first | done | simp
def errL (names : List ByteArray) : List (List Trm) -> Int
 | [] => 0
 | p :: r => if (printP p names).2 = 0 then errL names r else (printP p names).2
theorem errL_at {names : List ByteArray} {l : List (List Trm)} {k : Nat} {p : List Trm} (h : l[k]? = some p) : errL names (l.drop k) = if (printP p names).2 = 0 then errL names (l.drop (k + 1)) else (printP p names).2 := by
 have hk := lt_of_get h
 rw [List.drop_eq_getElem_cons hk, show l[k] = p from (List.getElem?_eq_some_iff.1 h).2, errL]
theorem errL_end (names : List ByteArray) (l : List (List Trm)) : errL names (l.drop l.length) = 0 := by rw [List.drop_length]; rfl
def endB : ByteArray := ⟨#[101, 110, 100, 10]⟩
def textC (names : List ByteArray) (F C : List (List Trm)) (P : List Int) (n : Int) (b : Bool) : ByteArray × Int :=
 if b = true then if errL names F = 0 then if errL names C = 0 then (catL (lnsC names F C P n C.length) ++ endB, 0) else (⟨#[]⟩, errL names C) else (⟨#[]⟩, errL names F) else (⟨#[]⟩, 1)
theorem printP_size {p : List Trm} {names : List ByteArray} (hq : ∀ t ∈ p, (termB t.coef.q t.mono names).size <= 1400000000) (hl : p.length <= 1000) : (printP p names).1.size <= 1400000003000 := by
 unfold printP
 split
 ·
  split
  ·
   split
   · exact Nat.zero_le _
   ·
    split
    · show 1 <= _; omega
    · exact Nat.le_trans (polyTo_size hq _) (Nat.le_trans (Nat.mul_le_mul_right _ hl) (by omega))
  · exact Nat.zero_le _
 · exact Nat.zero_le _
theorem catL_size {L : Nat} : ∀ {l : List ByteArray}, shortP L l -> (catL l).size <= l.length * (L + 1)
 | [], _ => Nat.zero_le _
 | x :: r, h => by
  have ih := catL_size (l := r) fun s hs => h s (by simp [hs])
  have hx := h x (by simp)
  have e : (catL (x :: r)).size = x.size + 1 + (catL r).size := by
   unfold catL
   rw [ofL_size, ofL_size, List.flatMap_cons, List.length_append, List.length_append]
   show x.data.toList.length + 1 + _ = x.data.size + 1 + _
   simp
  rw [e, List.length_cons, Nat.succ_mul]
  omega
theorem lnsC_short {M : Nat} {names : List ByteArray} {F C : List (List Trm)} {P : List Int} {n : Int} (hF : ∀ p ∈ F, (printP p names).1.size <= M) (hC : ∀ p ∈ C, (printP p names).1.size <= M) (hP : ∀ x ∈ P, x <= 64) (hl : P.length = F.length) (hn : n <= 64) (k : Nat) (hk : k <= C.length) :
  shortP (M + 100) (lnsC names F C P n k) := by
 intro s hs
 unfold lnsC lnsF at hs
 simp only [List.cons_append, List.mem_cons, List.mem_append, List.mem_map, List.mem_range] at hs
 rcases hs with rfl | ⟨i, hi, rfl⟩ | ⟨i, hi, rfl⟩
 ·
  unfold ln0
  have := digs_1m n (by omega)
  rw [ByteArray.size_append, ofL_size]
  show 6 + _ <= _
  omega
 ·
  obtain ⟨p, hp⟩ := get_of_lt (xs := F) (k := i) hi
  obtain ⟨x, hx⟩ := get_of_lt (xs := P) (k := i) (by omega)
  have h1 := hF p (List.mem_of_getElem? hp)
  have h2 := digs_1m x (by have := hP x (List.mem_of_getElem? hx); omega)
  unfold lnF
  rw [List.getD_eq_getElem?_getD, List.getD_eq_getElem?_getD, hp, hx, Option.getD_some, Option.getD_some, ByteArray.size_append, ByteArray.size_append, ByteArray.size_append, ofL_size]
  show 7 + _ + 1 + _ <= _
  omega
 ·
  obtain ⟨p, hp⟩ := get_of_lt (xs := C) (k := i) (by omega)
  have h1 := hC p (List.mem_of_getElem? hp)
  unfold lnC
  rw [List.getD_eq_getElem?_getD, hp, Option.getD_some, ByteArray.size_append]
  show 9 + _ <= _
  omega
structure CrQ where
 F : List (List Tm)
 P : List Int
 n : Int
 C : List (List Tm)
def noQ : CrQ := ⟨[], [], 0, []⟩
def wPower : List UInt8 := [112, 111, 119, 101, 114]
def wFactor : List UInt8 := [102, 97, 99, 116, 111, 114]
def wCof : List UInt8 := [99, 111, 102, 97, 99, 116, 111, 114]
def wEnd : List UInt8 := [101, 110, 100]
def firstQ (t : List UInt8) : Option CrQ := match cutL 32 t with
 | some (w, r) => if w = wPower then (numC 1 r).map fun n => ⟨[], [], n, []⟩ else none
 | none => none
def lineQ (names : List ByteArray) (c : CrQ) (t : List UInt8) : Option CrQ × Int := match cutL 32 t with
 | none => (none, 9)
 | some (w, r) =>
  if w = wCof then match polC names r with
   | (some p, _) => (some { c with C := c.C ++ [p] }, 0)
   | (none, e) => (none, e)
  else if w = wFactor then match cutL 32 r with
   | none => (none, 9)
   | some (d, x) => match numC 0 d with
    | none => (none, 9)
    | some k => if c.C = [] then match polC names x with
      | (some p, _) => if p = [] then (none, 3) else (some { c with F := c.F ++ [p], P := c.P ++ [(k : Int)] }, 0)
      | (none, e) => (none, e)
     else (none, 9)
  else (none, 9)
def restQ (names : List ByteArray) : Nat -> Nat -> CrQ -> List UInt8 -> CrQ × Nat × Int
 | 0, _, _, _ => (noQ, 0, 0)
 | f + 1, n, c, s => match cutL 10 s with
  | none => (noQ, n, 10)
  | some (t, r) => if t = wEnd then (if r = [] then (c, 0, 0) else match cutL 10 r with
    | none => (noQ, n + 1, 10)
    | some _ => (noQ, n + 1, 9))
   else match lineQ names c t with
    | (some c', _) => restQ names f (n + 1) c' r
    | (none, e) => (noQ, n, e)
def readQ (names : List ByteArray) (s : List UInt8) : CrQ × Nat × Int := match cutL 10 s with
 | none => (noQ, 1, 10)
 | some (t, r) => match firstQ t with
  | none => (noQ, 1, 9)
  | some c => restQ names (r.length + 1) 2 c r
def lnFQ (x : Int) (t : List UInt8) : List UInt8 := wFactor ++ 32 :: (textN x.toNat ++ 32 :: t)
def lnCQ (t : List UInt8) : List UInt8 := wCof ++ 32 :: t
structure Fr (Y : Nat -> Prop) (w w' : World) : Prop where
 os : w'.os = w.os
 tape : w'.tape = w.tape
 output : w'.output = w.output
 size : w.heap.size <= w'.heap.size
 block : ∀ k, k < w.heap.size -> ¬ Y k -> w'.heap[k]? = w.heap[k]?
section
variable {Y Z : Nat -> Prop} {w w' w'' : World}
theorem Fr.refl (Y : Nat -> Prop) (w : World) : Fr Y w w := ⟨rfl, rfl, rfl, nlr _, fun _ _ _ => rfl⟩
theorem Fr.trans (h : Fr Y w w') (k : Fr Y w' w'') : Fr Y w w'' := ⟨k.os.trans h.os, k.tape.trans h.tape, k.output.trans h.output, Nat.le_trans h.size k.size, fun n h1 h2 => (k.block n (ltl h1 h.size) h2).trans (h.block n h1 h2)⟩
theorem Fr.then_ (h : Fr Y w w') (k : Fr Z w' w'') (e : ∀ b, Z b -> Y b \/ w.heap.size <= b) : Fr Y w w'' := ⟨k.os.trans h.os, k.tape.trans h.tape, k.output.trans h.output, Nat.le_trans h.size k.size, fun n h1 h2 => (k.block n (ltl h1 h.size) (fun hz => (e n hz).elim h2 (fun h => by omega))).trans (h.block n h1 h2)⟩
theorem Fr.mono (h : Fr Y w w') (e : ∀ b, Y b -> Z b) : Fr Z w w' := ⟨h.os, h.tape, h.output, h.size, fun k h1 h2 => h.block k h1 fun hy => h2 (e _ hy)⟩
theorem Fr.below (h : Below w.heap.size w w') : Fr Y w w' := ⟨h.os, h.tape, h.output, h.size, fun k hk _ => h.block k hk⟩
theorem Fr.call (h : Fr Y w w') (k : Below w'.heap.size w' w'') : Fr Y w w'' := h.trans (Fr.below k)
theorem Fr.alloc (h : Fr Y w w') (o : Obj) : Fr Y w (w'.alloc o) := h.call (brf.alloc (nlr _) _)
theorem Fr.setc (h : Fr Y w w') {g i : Nat} {u : Value} (hg : Y g \/ w.heap.size <= g) : Fr Y w (w'.setCell ⟨g, i, none⟩ u) := ⟨h.os, h.tape, h.output, by have := h.size; simpa [World.setCell] using this, fun k h1 h2 =>
 (Below.heap_setCell _ _ _ _ (fun e => by simp at e; subst e; exact hg.elim h2 (fun h => by omega))).trans (h.block k h1 h2)⟩
theorem Fr.grown (h : Fr Y w w') {a : Option Addr} {n c : Nat} (hg : w'.grownBy w'' (Value.ownBlock (.slice a n c))) (ha : ∀ g, a = some g -> Y g.block \/ w.heap.size <= g.block) : Fr Y w w'' := ⟨hg.os.trans h.os, hg.tape.trans h.tape, hg.output.trans h.output, Nat.le_trans h.size hg.size, fun k h1 h2 =>
 (hg.block k (ltl h1 h.size) (fun e => by
  cases a with
  | none => simp [Value.ownBlock] at e
  | some g => simp [Value.ownBlock] at e; subst e; exact (ha g rfl).elim h2 (fun h => by omega))).trans (h.block k h1 h2)⟩
theorem Fr.agr (h : Fr Y w w') : Agr Y w w' := fun p v hp hc => by
 have := h.block p.block (World.block_lt_of_cell? w p hc) hp
 rw [<- hc]
 unfold World.cell?
 rw [this]
theorem Blk.fr {g : Nat} {t : TypeId} {cs : Array Value} (h : Blk w g t cs) (k : Fr Y w w') (hg : ¬ Y g) : Blk w' g t cs := (k.block g h.lt hg).trans h
theorem Below.fr {B : Nat} {W0 : World} (h : Below B W0 w) (k : Fr Y w w') (hY : ∀ b, Y b -> B <= b) (hB : B <= w.heap.size) : Below B W0 w' :=
 ⟨k.os.trans h.os, k.tape.trans h.tape, k.output.trans h.output, Nat.le_trans h.size k.size, fun n hn => (k.block n (by omega) (fun hy => by have := hY n hy; omega)).trans (h.block n hn)⟩
end
end Go.Proofs.YtkjnkpkagcboeaaGreatDoor
namespace Go.Proofs.YtkjnkpkagcboeaaGreatDoor
open Go.RowKit Go.Maps Go.WideMaps
def whoL (l : List ByteArray) (s : ByteArray) : Option Nat := l.findIdx? fun x => decide (x = s)
theorem whoL_lt {l : List ByteArray} {s : ByteArray} {v : Nat} (h : whoL l s = some v) : v < l.length := by
 unfold whoL at h
 exact (List.findIdx?_eq_some_iff_getElem.1 h).1
theorem whoL_snoc {l : List ByteArray} {x : ByteArray} (hx : whoL l x = none) (s : ByteArray) : whoL (l ++ [x]) s = if s = x then some l.length else whoL l s := by
 unfold whoL at hx ⊢
 rw [List.findIdx?_append]
 by_cases h : s = x
 ·
  subst h
  rw [hx, if_pos rfl]
  simp [List.findIdx?_cons]
 ·
  rw [if_neg h]
  have h2 : ¬ x = s := fun e => h e.symm
  simp [List.findIdx?_cons, h2]
theorem zeroI (w : World) : (zeroValue 3).run Tryz.prog w = .ok (.int .i64 0) w := by kernel_rfl
def OwnV (w : World) (b n : Nat) (l : List ByteArray) : Prop :=
 ∃ D : DataW Unit, w.ownsMap Tryz.prog 9 (plainElem Tryz.prog 3) b n D /\ ∀ s : ByteArray, D.atKey (.string s.data.toList) (.lit (.int .i64 0)) = .lit (.int .i64 ((whoL l s).getD 0 : Nat)) /\ Maps.has D (.string s.data.toList) = (whoL l s).isSome
section
variable {w w' : World} {b n : Nat} {l : List ByteArray}
theorem OwnV.made (w : World) : OwnV (w.alloc (.map #[] 0)) w.heap.size 0 [] := ⟨.map [], World.ownsMap_made _ _ _ _, fun _ => ⟨rfl, rfl⟩⟩
theorem OwnV.kept {row : Option Nat} (h : OwnV w b n l) (hg : w.grownBy w' row) (hne : some b ≠ row) : OwnV w' b n l := by obtain ⟨D, h1, h2⟩ := h; exact ⟨D, h1.kept hg hne, h2⟩
theorem OwnV.alloc (h : OwnV w b n l) (o : Obj) : OwnV (w.alloc o) b n l := by obtain ⟨D, h1, h2⟩ := h; exact ⟨D, h1.alloc o, h2⟩
theorem OwnV.fr {g : Nat} (h : OwnV w b n l) (k : Fr (fun x => x = g) w w') (hg : b ≠ g) : OwnV w' b n l :=
 h.kept (row := some g) ⟨k.os, k.tape, k.output, k.size, fun i hi hne => k.block i hi fun e => hne (by rw [e])⟩ (fun e => hg (by injection e))
theorem plainI {v : Int} (h : (Lit.int .i64 v).wf = true) : plainElem (H := Unit) Tryz.prog 3 (.int .i64 v) = some (.lit (.int .i64 v), []) := plainElem_int Tryz.underlying3 h
theorem OwnV.look (h : OwnV w b n l) {s : ByteArray} (hs : s.size <= maxLen) : (Instr.lookup 71 (.map (some b)) (.string s) true).run Tryz.prog w = .ok (.tuple #[.int .i64 ((whoL l s).getD 0 : Nat), .bool (whoL l s).isSome]) w := by
 obtain ⟨D, h1, h2⟩ := h
 obtain ⟨v, ps, hr, hv⟩ := h1.look_ok keyedS Tryz.underlying71 (zeroI w) (plainI (v := 0) (by decide)) (keyOf_string_mk Tryz.underlying9 hs)
 rw [(h2 s).1] at hv
 obtain ⟨c, rfl, hc, _⟩ := plainElem_int_inv Tryz.underlying3 hv
 simp only [Prod.mk.injEq, DataW.lit.injEq, Lit.int.injEq] at hc
 rw [hr, (h2 s).2, <- hc.1.2]
end
section
variable {w : World} {b n : Nat} {l : List ByteArray} {ops : Array Oper} {rest : List Oper} {o : Oper} {a : Act} {Q : Exit -> Act -> World -> Prop}
theorem mapI_put (hg : o.guard = none) (m x v : Operand) (hop : o.op = Op.mapUpdate 71 m x v) (hm : a.eval m = .map (some b)) (hown : OwnV w b n l) (hn : n < 16777216)
  (s : ByteArray) (hs : s.size <= maxLen) (hx : a.eval x = .string s) (hw : whoL l s = none) (hl : l.length <= 16777216) (hv : a.eval v = .int .i64 l.length)
  (hK : ∀ w', OwnV w' b (n + 1) (l ++ [s]) -> w.grownBy w' (some b) -> wpList Tryz.prog ops Q rest (a.put o.dst undef) w') : wpList Tryz.prog ops Q (o :: rest) a w := by
 obtain ⟨D, h1, h2⟩ := hown
 refine wpList_mapUpdate_own w hg m x v 71 hop 9 3 keyedS Tryz.underlying71 (plainElem Tryz.prog 3) b n D hm h1 (by unfold maxLen; omega) _ _ (.string s.data.toList) hx hv
  (keyOf_string_mk Tryz.underlying9 hs) (.lit (.int .i64 l.length)) [] (plainI (wf_of (by unfold InInt; omega))) fun w' r1 r2 => hK w' ⟨_, r1, fun t => ?_⟩ r2
 rw [whoL_snoc hw]
 by_cases he : t = s
 ·
  subst he
  rw [atKey_put_same (h1.isMap) (show WideAt.IsKeyLit (.string _) from trivial), has_put_same (h1.isMap) (show WideAt.IsKeyLit (.string _) from trivial), if_pos rfl]
  exact ⟨rfl, rfl⟩
 ·
  rw [atKey_put_other (strLit_ne he), has_put_other (strLit_ne he), (h2 t).1, (h2 t).2, if_neg he]
  exact ⟨rfl, rfl⟩
end
end Go.Proofs.YtkjnkpkagcboeaaGreatDoor
