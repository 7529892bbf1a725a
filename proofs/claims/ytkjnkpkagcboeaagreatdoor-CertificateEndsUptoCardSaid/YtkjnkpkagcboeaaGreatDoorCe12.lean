/- The text of a polynomial, read again, gives its terms. Plain. -/
import Derived.Test.YtkjnkpkagcboeaaGreatDoorCe11
import Derived.Test.YtkjnkpkagcboeaaGreatDoorCe10
import Derived.Test.YtkjnkpkagcboeaaGreatDoorCe1
import Derived.Maps.OwnSet
import Derived.Maps.OwnOps
import Derived.StringKeys
import Derived.ChangeMaps5
import Derived.Test.YtkjnkpkagcboeaaGreatDoorCe3
import Derived.Test.YtkjnkpkagcboeaaGreatDoorCe9
set_option linter.all false
set_option maxRecDepth 100000
set_option maxHeartbeats 4000000
namespace Go.Proofs.YtkjnkpkagcboeaaGreatDoor
open Go.RowKit
theorem run_next_rune {P : Program} (w : World) (g : Nat) (s : ByteArray) (pos : Nat) (hi : Itr w g s pos) (h : pos < s.size) :
  ∃ (r : Nat) (n : Nat), (∀ ty : TypeId, (Instr.next (.pointer (some ⟨g, 0, none⟩)) true ty).run P w = .ok (.tuple #[.bool true, .int .i64 pos, .int .i32 (r : Int)]) (setItr w g s (pos + n))) /\ ((s[pos]'h).toNat < 128 -> n = 1 /\ r = (s[pos]'h).toNat) /\ (128 <= (s[pos]'h).toNat -> 128 <= r) := by
 by_cases ha : (s[pos]'h).toNat < 128
 · exact ⟨_, 1, fun ty => run_next_at w g s pos ty hi h ha, fun _ => ⟨rfl, rfl⟩, fun hb => by omega⟩
 ·
  unfold Itr at hi
  refine ⟨(Utf8.decode s pos).1, (Utf8.decode s pos).2, fun ty => ?_, fun h => absurd h ha, fun hb => (decode_high s pos h hb).1⟩
  simp only [Instr.next, getObj, setObj, Sem.run_bind, Sem.run, hi, Result.andThen, h, if_true]
  simp [goInt, setItr]
theorem letV_ascii {c : Nat} (h : letV c = true) : c < 128 := by unfold letV at h; rw [decide_eq_true_eq] at h; omega
theorem digV_ascii {c : Nat} (h : digV c = true) : c < 128 := by unfold digV at h; rw [decide_eq_true_eq] at h; omega
theorem letV_digV (c : Int) : letV c = (!(digV c) && (letV c || digV c)) := by
 rw [Bool.eq_iff_iff]; unfold letV digV; simp; omega
theorem nameV_all (l : List UInt8) (c : UInt8) (r : List UInt8) (h : l = c :: r) : nameV l = (!(digV c.toNat) && l.all wordV) := by
 subst h
 show (letV c.toNat && r.all wordV) = (!(digV c.toNat) && (wordV c && r.all wordV))
 rw [letV_digV, <- Bool.and_assoc]; rfl
theorem nameV_at {s : ByteArray} (h : 0 < s.size) : nameV s.data.toList = (!(digV ((s[0]'h).toNat : Nat)) && s.data.toList.all wordV) := by
 have h' : 0 < s.data.toList.length := by simpa using h
 have e : s.data.toList = s.data.toList[0] :: s.data.toList.drop 1 := by
  have := List.drop_eq_getElem_cons (l := s.data.toList) (i := 0) h'
  simpa using this
 exact nameV_all _ _ _ e
theorem all_bad {s : ByteArray} {pos : Nat} (h : pos < s.size) (hw : wordV (s[pos]'h) = false) : s.data.toList.all wordV = false := by
 rw [List.all_eq_false]; exact ⟨_, List.mem_of_getElem? (get_list h), by simp [hw]⟩
theorem isNameS_any (s : ByteArray) (w : World) (hs : s.size <= 9223372036854775807) :
  Calls Tryz.prog 54 #[.string s] w fun e w' => e = .returned (.bool (nameV s.data.toList)) /\ Below w.heap.size w w' := by
 by_cases h0 : s.size = 0
 ·
  have e := size_zero.1 h0
  subst e
  clear h0 hs
  go_enter Tryz.func54, Tryz.ntmps54
  go_wp2
  go_ret
  exact ⟨rfl, Below.refl _ _⟩
 have hse : s.toList.isEmpty = false := by rw [str_isEmpty]; simp; exact fun e => h0 (size_zero.2 e)
 have hse2 : s.toList ≠ [] := by intro e; rw [e] at hse; cases hse
 have hp : 0 < s.size := by omega
 have hnm := nameV_at hp
 have CD := digitS_any ((s[0]'hp).toNat : Nat) w
 obtain ⟨r, hr⟩ : ∃ r, nameV s.data.toList = r := ⟨_, rfl⟩
 rw [hr] at hnm ⊢
 obtain ⟨b, hb⟩ : ∃ b, digV ((s[0]'hp).toNat : Nat) = b := ⟨_, rfl⟩
 rw [hb] at CD hnm
 replace CD := Hd CD
 clear hb hr h0
 go_enter Tryz.func54, Tryz.ntmps54
 cases b
 ·
  have HN := Hd hnm
  clear hnm
  go_wp2_with fail
  refine CD.out.mono ?_
  rintro e w' ⟨rfl, rfl⟩
  go_wp2
  have hi0 := World.iter_heap w s 0
  have hb0 : Below w.heap.size w (w.iter s 0) := (Below.refl _ w).alloc (nlr _) _
  revert hi0 hb0
  generalize w.iter s 0 = w0
  intro hi0 hb0
  clear CD
  go_loopg [4] s.size (fun g _ wr => ∃ pos : Nat, pos + g = s.size /\ Itr wr w.heap.size s pos /\ Below w.heap.size w wr /\ (s.data.toList.take pos).all wordV = true)
  case atStart => exact ⟨0, by omega, hi0, hb0, rfl⟩
  case round =>
   obtain ⟨pos, hpos, hi, hb, hall⟩ := hrel
   clear hi0 hb0
   have HA := Hd hall
   have HP := Hd hpos
   have hsz := hi.lt
   clear hall
   by_cases hlt : pos < s.size
   ·
    obtain ⟨rr, n, hnx, hn1, hn2⟩ := run_next_rune (P := Tryz.prog) wr w.heap.size s pos hi hlt
    have hw : wordV (s[pos]'hlt) = (letV ((s[pos]'hlt).toNat : Nat) || digV ((s[pos]'hlt).toNat : Nat)) := rfl
    have hgl := get_list hlt
    have hbad := fun h => all_bad (s := s) (pos := pos) hlt h
    have hi2 := hi.set (pos + 1)
    have hb2 : Below w.heap.size w (setItr wr w.heap.size s (pos + n)) := below_setItr hb (nlr _) s _
    by_cases ha : (s[pos]'hlt).toNat < 128
    ·
     obtain ⟨rfl, rfl⟩ := hn1 ha
     obtain ⟨c, hc⟩ : ∃ c, s[pos]'hlt = c := ⟨_, rfl⟩
     rw [hc] at hw hgl hbad hnx ha
     have CL := Hd (letterS_any (c.toNat : Nat))
     have CD := Hd (digitS_any (c.toNat : Nat))
     have hall2 : wordV c = true -> (s.data.toList.take (pos + 1)).all wordV = true := fun h => by rw [take_more hgl, List.all_append, HA.out]; simp [h]
     replace hall2 := Hd hall2; replace hbad := Hd hbad; replace hw := Hd hw
     have h128 : ((c.toNat : Nat) : Int) < 128 := by omega
     have h256 : ((c.toNat : Nat) : Int) % 256 = ((c.toNat : Nat) : Int) := by omega
     obtain ⟨y, hy⟩ : ∃ y : Nat, c.toNat = y := ⟨_, rfl⟩
     rw [hy] at hw CL CD hnx h128 h256
     obtain ⟨w2, hw2⟩ : ∃ W, setItr wr w.heap.size s (pos + 1) = W := ⟨_, rfl⟩
     rw [hw2] at hnx hi2 hb2
     obtain ⟨bl, hbl⟩ : ∃ b, letV (y : Int) = b := ⟨_, rfl⟩
     obtain ⟨bd, hbd⟩ : ∃ b, digV (y : Int) = b := ⟨_, rfl⟩
     have hw3 := hw.out
     rw [hbl, hbd] at hw3
     simp only [hbl] at CL
     simp only [hbd] at CD
     have CL2 := Hd CL.out; have CD2 := Hd CD.out
     replace hbl := Hd hbl; replace hbd := Hd hbd; replace hw3 := Hd hw3
     clear CL CD hn2 hy hc hw2 hw hgl
     cases bl
     ·
      cases bd
      ·
       have hfin := hbad.out (by rw [hw3.out]; rfl)
       have HF := Hd (HN.out.trans (by rw [hfin, Bool.and_false]))
       clear hfin
       go_wp2_with fail
       refine (CL2.out _).mono ?_
       rintro e w' ⟨rfl, rfl⟩
       go_wp2_with fail
       refine (CD2.out _).mono ?_
       rintro e w' ⟨rfl, rfl⟩
       go_wp2
       go_ret
       exact ⟨ret_bool HF.out.symm, hb2⟩
      ·
       have hfin := Hd (hall2.out (by rw [hw3.out]; rfl))
       go_wp2_with fail
       refine (CL2.out _).mono ?_
       rintro e w' ⟨rfl, rfl⟩
       go_wp2_with fail
       refine (CD2.out _).mono ?_
       rintro e w' ⟨rfl, rfl⟩
       go_wp2
       go_roundg (gk - 1)
       case rel => exact ⟨pos + 1, by have := HP.out; omega, hi2, hb2, hfin.out⟩
       case measure => have := HP.out; omega
     ·
      have hfin := Hd (hall2.out (by rw [hw3.out]; rfl))
      go_wp2_with fail
      refine (CL2.out _).mono ?_
      rintro e w' ⟨rfl, rfl⟩
      go_wp2
      go_roundg (gk - 1)
      case rel => exact ⟨pos + 1, by have := HP.out; omega, hi2, hb2, hfin.out⟩
      case measure => have := HP.out; omega
    ·
     have hr128 : (128 : Int) <= (rr : Int) := by have := hn2 (by omega); omega
     have hwf : wordV (s[pos]'hlt) = false := by
      rw [hw, Bool.or_eq_false_iff]
      exact ⟨Bool.eq_false_iff.2 fun h => ha (by simpa using letV_ascii h), Bool.eq_false_iff.2 fun h => ha (by simpa using digV_ascii h)⟩
     have HF := Hd (HN.out.trans (by rw [hbad hwf, Bool.and_false]))
     clear hwf hbad hw hgl hi2 hn1 hn2
     go_wp2
     go_ret
     exact ⟨ret_bool HF.out.symm, hb2⟩
   ·
    have hns := fun ty => run_next_stop (P := Tryz.prog) wr w.heap.size s pos ty hi hlt
    have HF : Hid (r = true) := Hd (HN.out.trans (by
     have := HA.out
     rw [List.take_of_length_le (by have : s.data.toList.length = s.size := by { simp }; omega)] at this
     rw [this]; first | done | rfl))
    go_wp2
    go_ret
    exact ⟨ret_bool HF.out.symm, hb⟩
 ·
  simp at hnm
  subst hnm
  go_wp2_with fail
  refine CD.out.mono ?_
  rintro e w' ⟨rfl, rfl⟩
  go_wp2
  go_ret
  exact ⟨rfl, Below.refl _ _⟩
end Go.Proofs.YtkjnkpkagcboeaaGreatDoor
namespace Go.Proofs.YtkjnkpkagcboeaaGreatDoor
open Go.RowKit Go.Maps Go.WideMaps
theorem keyedS : Keyed Tryz.prog 9 := string_keyed Tryz.underlying9
theorem zeroB (w : World) : (zeroValue 4).run Tryz.prog w = .ok (.bool false) w := by kernel_rfl
def OwnM (w : World) (b n : Nat) (S : ByteArray -> Bool) : Prop :=
 ∃ D : DataW Unit, w.ownsMap Tryz.prog 9 (plainElem Tryz.prog 4) b n D /\ ∀ s : ByteArray, D.atKey (.string s.data.toList) (.lit (.bool false)) = .lit (.bool (S s))
theorem strLit_ne {s t : ByteArray} (h : s ≠ t) : Lit.string s.data.toList ≠ Lit.string t.data.toList := fun e => h (by
 injection e with e
 cases s; cases t
 simp at e
 rw [e])
section
variable {w w' : World} {b n : Nat} {S : ByteArray -> Bool}
theorem OwnM.made (w : World) : OwnM (w.alloc (.map #[] 0)) w.heap.size 0 (fun _ => false) := ⟨.map [], World.ownsMap_made _ _ _ _, fun _ => rfl⟩
theorem OwnM.lt (h : OwnM w b n S) : b < w.heap.size := by obtain ⟨D, h1, _⟩ := h; exact h1.lt
theorem OwnM.look (h : OwnM w b n S) {s : ByteArray} (hs : s.size <= maxLen) : (Instr.lookup 100 (.map (some b)) (.string s) false).run Tryz.prog w = .ok (.bool (S s)) w := by
 obtain ⟨D, h1, h2⟩ := h
 obtain ⟨v, ps, hr, hv⟩ := h1.lookup keyedS Tryz.underlying100 (zeroB w) (plainElem_bool Tryz.underlying4 false) (keyOf_string_mk Tryz.underlying9 hs)
 rw [h2 s] at hv
 rw [hr]
 unfold plainElem at hv
 simp [Tryz.underlying4] at hv
 cases v <;> simp at hv
 rw [hv.1]
end
section
variable {w : World} {b n : Nat} {S : ByteArray -> Bool} {ops : Array Oper} {rest : List Oper} {o : Oper} {a : Act} {Q : Exit -> Act -> World -> Prop}
theorem map_put (hg : o.guard = none) (m x v : Operand) (hop : o.op = Op.mapUpdate 100 m x v) (hm : a.eval m = .map (some b)) (hown : OwnM w b n S) (hn : n < 16777216)
  (s : ByteArray) (hs : s.size <= maxLen) (hx : a.eval x = .string s) (hv : a.eval v = .bool true)
  (hK : ∀ w', OwnM w' b (n + 1) (fun t => decide (t = s) || S t) -> w.grownBy w' (some b) -> wpList Tryz.prog ops Q rest (a.put o.dst undef) w') : wpList Tryz.prog ops Q (o :: rest) a w := by
 obtain ⟨D, h1, h2⟩ := hown
 refine wpList_mapUpdate_own w hg m x v 100 hop 9 4 keyedS Tryz.underlying100 (plainElem Tryz.prog 4) b n D hm h1 (by unfold maxLen; omega) _ _ (.string s.data.toList) hx hv
  (keyOf_string_mk Tryz.underlying9 hs) (.lit (.bool true)) [] (plainElem_bool Tryz.underlying4 true) fun w' r1 r2 => hK w' ⟨_, r1, fun t => ?_⟩ r2
 by_cases he : t = s
 ·
  subst he
  rw [atKey_put_same (h1.isMap) (show WideAt.IsKeyLit (.string _) from trivial)]
  simp
 ·
  rw [atKey_put_other (strLit_ne he), h2 t]
  simp [he]
end
end Go.Proofs.YtkjnkpkagcboeaaGreatDoor
namespace Go.Proofs.YtkjnkpkagcboeaaGreatDoor
open Go.RowKit
def nmB (s : ByteArray) : Bool := nameV s.data.toList
def inB (l : List ByteArray) (s : ByteArray) : Bool := l.any fun t => decide (t = s)
def dupAt (l : List ByteArray) (i : Nat) : Bool := match l[i]? with
 | some s => inB (l.take i) s
 | none => false
def errNm (l : List ByteArray) : Int := if l.all nmB = true then (if (List.range l.length).any (dupAt l) = true then 7 else 0) else 9
theorem errNm_bad {l : List ByteArray} {k : Nat} {s : ByteArray} (h : l[k]? = some s) (hb : nmB s = false) : errNm l = 9 := by
 unfold errNm
 rw [if_neg]
 intro h2
 rw [List.all_eq_true] at h2
 rw [h2 s (List.mem_of_getElem? h)] at hb
 cases hb
theorem errNm_dup {l : List ByteArray} {k : Nat} {s : ByteArray} (ha : l.all nmB = true) (h : l[k]? = some s) (hb : inB (l.take k) s = true) : errNm l = 7 := by
 unfold errNm
 rw [if_pos ha, if_pos]
 rw [List.any_eq_true]
 exact ⟨k, List.mem_range.2 (lt_of_get h), by unfold dupAt; rw [h]; simp [hb]⟩
theorem errNm_good {l : List ByteArray} (ha : l.all nmB = true) (hb : ∀ k s, l[k]? = some s -> inB (l.take k) s = false) : errNm l = 0 := by
 unfold errNm
 rw [if_pos ha, if_neg]
 rw [List.any_eq_true]
 rintro ⟨k, hk, h⟩
 obtain ⟨s, hs⟩ := get_of_lt (List.mem_range.1 hk)
 unfold dupAt at h
 rw [hs] at h
 have h2 : inB (l.take k) s = true := h
 rw [hb k s hs] at h2; cases h2
theorem inB_succ {l : List ByteArray} {k : Nat} {x : ByteArray} (hx : l[k]? = some x) : inB (l.take (k + 1)) = fun t => decide (t = x) || inB (l.take k) t := by
 funext t
 unfold inB
 rw [take_more hx, List.any_append, Bool.or_comm]
 congr 1
 simp only [List.any_cons, List.any_nil, Bool.or_false]
 rw [decide_eq_decide]
 exact eq_comm
theorem fresh_succ {l : List ByteArray} {k : Nat} {x : ByteArray} (h : ∀ j s, j < k -> l[j]? = some s -> inB (l.take j) s = false) (hx : l[k]? = some x) (hn : inB (l.take k) x = false) : ∀ j s, j < k + 1 -> l[j]? = some s -> inB (l.take j) s = false := fun j s hj hs => by
 by_cases e : j = k
 · subst e; rw [hx] at hs; injection hs with hs; subst hs; exact hn
 · exact h j s (by omega) hs
theorem checkS_any (l : List ByteArray) (a : Option Addr) (c : Nat) (w : World) (h : StrsR w a c l) (hz : ∀ s ∈ l, s.size <= 1048576) (hl : l.length <= 1000000) :
  Calls Tryz.prog 26 #[.slice a l.length c] w fun e w' => e = .returned (.int .i64 (errNm l)) /\ Below w.heap.size w w' := by
 have HL := Hd h; have HZ := Hd hz
 clear h hz
 have hmm := @run_makeMap Tryz.prog
 go_enter Tryz.func26, Tryz.ntmps26
 go_wp2
 go_loopg [4, 10] l.length (fun g _ s10 wr => ∃ k : Nat, k + g = l.length /\ s10 = .int .i64 k /\ Hid ((l.take k).all nmB = true) /\ Below w.heap.size w wr)
 case atStart => exact ⟨0, by omega, rfl, rfl, Below.refl _ _⟩
 case round =>
  obtain ⟨k, hk, rfl, hall, hb⟩ := hrel
  have HK := Hd hk
  clear hk
  by_cases hlt : k < l.length
  ·
   obtain ⟨x, hx⟩ := get_of_lt hlt
   obtain ⟨b, o, rfl, hc⟩ := HL.out.2.2 k x hx
   simp only [Nat.mul_one] at hc
   have hc2 := held hc wr hb
   have CN := isNameS_any x wr (by have := HZ.out x (List.mem_of_getElem? hx); omega)
   have hx2 := Hd hx
   have hall2 : nmB x = true -> (l.take (k + 1)).all nmB = true := fun h => by rw [take_more hx, List.all_append, hall.out]; simp [h]
   obtain ⟨bn, hbn⟩ : ∃ b, nameV x.data.toList = b := ⟨_, rfl⟩
   rw [hbn] at CN
   have hnb := Hd (show nmB x = bn from hbn)
   replace CN := Hd CN; replace hall2 := Hd hall2
   clear hbn hx hc
   go_wp2_with fail
   refine CN.out.mono ?_
   rintro e w2 ⟨rfl, hb2⟩
   have hw2 := bth hb hb2
   cases bn
   ·
    have hf := Hd (errNm_bad hx2.out hnb.out)
    go_wp2
    go_ret
    exact ⟨ret_int hf.out.symm, hw2⟩
   ·
    have hf := Hd (hall2.out hnb.out)
    go_wp2
    go_roundg (gk - 1)
    case rel => exact ⟨k + 1, by have := HK.out; omega, by go_num, hf.out, hw2⟩
    case measure => have := HK.out; omega
  ·
   have HA : Hid (l.all nmB = true) := Hd (by have := hall.out; rwa [take_all hlt] at this)
   obtain ⟨wo, rfl⟩ : ∃ wo : World, wo = wr := ⟨_, rfl⟩
   clear hall HK
   go_wp2
   have hm := OwnM.made wo
   have hb0 : Below w.heap.size w (wo.alloc (.map #[] 0)) := hb.alloc hb.size _
   revert hm hb0
   generalize wo.alloc (.map #[] 0) = w0
   intro hm hb0
   obtain ⟨mb, hmb⟩ : ∃ q, wo.heap.size = q := ⟨_, rfl⟩
   have hmw : w.heap.size <= mb := by have := hb.size; omega
   rw [hmb] at hm ⊢
   clear hmb hb hmm
   go_loopg [7, 21] l.length (fun g _ s21 w2 => ∃ j : Nat, j + g = l.length /\ s21 = .int .i64 j /\ OwnM w2 mb j (inB (l.take j)) /\ Hid (∀ i s, i < j -> l[i]? = some s -> inB (l.take i) s = false) /\ Below w.heap.size w w2)
   case atStart => exact ⟨0, by omega, rfl, hm, by intro i s hi; omega, hb0⟩
   case round =>
    clear hm hb0
    obtain ⟨j, hj, rfl, hm, hfr, hb⟩ := hrel
    have HJ := Hd hj
    clear hj
    by_cases hlt : j < l.length
    ·
     obtain ⟨x, hx⟩ := get_of_lt hlt
     obtain ⟨b, o, rfl, hc⟩ := HL.out.2.2 j x hx
     simp only [Nat.mul_one] at hc
     have hc2 := held hc wr hb
     have hxs : x.size <= maxLen := by have := HZ.out x (List.mem_of_getElem? hx); unfold maxLen; omega
     have hlook := hm.look hxs
     have hsu := Hd (inB_succ hx)
     have hx2 := Hd hx
     have HM := Hd hm
     have hml := hm.lt
     obtain ⟨bi, hbi⟩ : ∃ q, inB (l.take j) x = q := ⟨_, rfl⟩
     rw [hbi] at hlook
     have hbi2 := Hd hbi
     clear hbi hx hc hm
     cases bi
     ·
      have hf2 := Hd (fresh_succ hfr.out hx2.out hbi2.out)
      go_wp2_with (at_mapUpdate; go_must (refine map_put rfl (.tmp 28) (.tmp 29) (.const (.bool true)) rfl rfl HM.out (by omega) x hxs rfl rfl ?_); intro w2 hm2 hg2)
      rw [<- hsu.out] at hm2
      have hw2 : Below w.heap.size w w2 := hb.grown hg2 hb.size (fun k hk => by injection hk with hk; omega)
      go_roundg (gk - 1)
      case rel => exact ⟨j + 1, by have := HJ.out; omega, by go_num, hm2, hf2.out, hw2⟩
      case measure => have := HJ.out; omega
     ·
      have hf := Hd (errNm_dup HA.out hx2.out hbi2.out)
      go_wp2
      go_ret
      exact ⟨ret_int hf.out.symm, hb⟩
    ·
     have hf := Hd (errNm_good HA.out fun i s hs => hfr.out i s (by have := lt_of_get hs; omega) hs)
     go_wp2
     go_ret
     exact ⟨ret_int hf.out.symm, hb⟩
theorem varsI_last (p : List Trm) : ∀ (i : Nat) (v : Int), (varsI p i)[(varsI p i).length - 1]? = some v -> v ∈ varsI p i /\ ∀ u ∈ varsI p i, u <= v
 | 0, v, h => by simp [varsI] at h
 | i + 1, v, h => by
  rw [varsI_succ] at h ⊢
  by_cases hs : seenB p i = true
  ·
   rw [if_pos hs] at h ⊢
   simp at h
   subst h
   refine ⟨by simp, fun u hu => ?_⟩
   rcases List.mem_append.1 hu with hu | hu
   · have := varsI_in p i u hu; omega
   · simp at hu; omega
  ·
   rw [if_neg hs] at h ⊢
   exact varsI_last p i v h
theorem varsI_mem {p : List Trm} {i v : Nat} (hv : v < i) (hs : seenB p v = true) : (v : Int) ∈ varsI p i := by
 unfold varsI
 exact List.mem_map.2 ⟨v, List.mem_filter.2 ⟨List.mem_range.2 hv, hs⟩, rfl⟩
theorem varsI_seen {p : List Trm} {i : Nat} {u : Int} (h : u ∈ varsI p i) : ∃ v : Nat, u = v /\ seenB p v = true := by
 unfold varsI at h
 obtain ⟨v, hv, rfl⟩ := List.mem_map.1 h
 exact ⟨v, rfl, (List.mem_filter.1 hv).2⟩
def bigB (l : List Trm) (n : Nat) : Bool := l.any fun t => decide (n < t.mono.length)
theorem expAt_lt {m : List Int} {v : Nat} (h : expAt m v ≠ 0) : v < m.length := by
 apply Nat.lt_of_not_le
 intro hc
 apply h
 unfold expAt; rw [List.getD_eq_getElem?_getD, List.getElem?_eq_none hc]; rfl
theorem bigB_last {l : List Trm} {n : Nat} {v : Int} (hm : ∀ t ∈ l, monoB t.mono = true) (h : (varsI l 64)[(varsI l 64).length - 1]? = some v) : bigB l n = decide ((n : Int) <= v) := by
 obtain ⟨h1, h2⟩ := varsI_last l 64 v h
 rw [Bool.eq_iff_iff, decide_eq_true_eq]
 unfold bigB
 rw [List.any_eq_true]
 constructor
 ·
  rintro ⟨t, ht, hb⟩
  have hb' : n < t.mono.length := by simpa using hb
  have hmt := hm t ht
  have hme := monoB_mem hmt
  have hne : expAt t.mono (t.mono.length - 1) ≠ 0 := by
   intro e0
   have hlt : t.mono.length - 1 < t.mono.length := by omega
   obtain ⟨x, hx⟩ := get_of_lt hlt
   have hx0 : x = 0 := by unfold expAt at e0; rw [List.getD_eq_getElem?_getD, hx] at e0; exact e0
   rw [monoB_last (by rw [hx, hx0])] at hmt
   cases hmt
  have := h2 _ (varsI_mem (p := l) (i := 64) (v := t.mono.length - 1) (by omega) (by unfold seenB; rw [List.any_eq_true]; exact ⟨t, ht, by simp [hne]⟩))
  omega
 ·
  intro hn
  obtain ⟨u, rfl, hs⟩ := varsI_seen h1
  unfold seenB at hs
  rw [List.any_eq_true] at hs
  obtain ⟨t, ht, hx⟩ := hs
  have := expAt_lt (m := t.mono) (v := u) (by simpa using hx)
  exact ⟨t, ht, by simp; omega⟩
theorem bigB_none {l : List Trm} {n : Nat} (hm : ∀ t ∈ l, monoB t.mono = true) (h : (varsI l 64).length = 0) : bigB l n = false := by
 rw [Bool.eq_false_iff]
 intro hb
 unfold bigB at hb
 rw [List.any_eq_true] at hb
 obtain ⟨t, ht, hb⟩ := hb
 have hb' : n < t.mono.length := by simpa using hb
 have hmt := hm t ht
 have hme := monoB_mem hmt
 have hne : expAt t.mono (t.mono.length - 1) ≠ 0 := by
  intro e0
  obtain ⟨x, hx⟩ := get_of_lt (show t.mono.length - 1 < t.mono.length by omega)
  have hx0 : x = 0 := by unfold expAt at e0; rw [List.getD_eq_getElem?_getD, hx] at e0; exact e0
  rw [monoB_last (by rw [hx, hx0])] at hmt
  cases hmt
 have := varsI_mem (p := l) (i := 64) (v := t.mono.length - 1) (by omega) (by unfold seenB; rw [List.any_eq_true]; exact ⟨t, ht, by simp [hne]⟩)
 rw [List.length_eq_zero_iff] at h
 rw [h] at this
 cases this
theorem polyB_terms {l : List Trm} (h : polyB l = true) : ∀ t ∈ l, t.coef.right = true /\ monoB t.mono = true := fun t ht => by
 obtain ⟨i, hi⟩ := List.getElem?_of_mem ht
 have hil := (List.getElem?_eq_some_iff.1 hi).1
 unfold polyB at h
 rw [List.all_eq_true] at h
 have := h i (List.mem_range.2 hil)
 have ho := badAt_ok hi (by simpa using this)
 unfold okT at ho
 simp only [Bool.and_eq_true] at ho
 exact ⟨ho.1.1, ho.2⟩
def signP (k : Nat) (q : Rat) : ByteArray := if k = 0 then (if q < 0 then ⟨#[45]⟩ else ⟨#[]⟩) else if q < 0 then ⟨#[32, 45, 32]⟩ else ⟨#[32, 43, 32]⟩
def polyTo (l : List Trm) (names : List ByteArray) : Nat -> ByteArray
 | 0 => ⟨#[]⟩
 | k + 1 => match l[k]? with
  | some t => polyTo l names k ++ signP k t.coef.q ++ termB t.coef.q t.mono names
  | none => polyTo l names k
theorem polyTo_succ {l : List Trm} {names : List ByteArray} {k : Nat} {t : Trm} (h : l[k]? = some t) : polyTo l names (k + 1) = polyTo l names k ++ signP k t.coef.q ++ termB t.coef.q t.mono names := by rw [polyTo, h]
def printP (l : List Trm) (names : List ByteArray) : ByteArray × Int :=
 if polyB l = true then if errNm names = 0 then if bigB l names.length = true then (⟨#[]⟩, 6) else if l.length = 0 then (⟨#[48]⟩, 0) else (polyTo l names l.length, 0) else (⟨#[]⟩, errNm names) else (⟨#[]⟩, 1)
theorem signP_size (k : Nat) (q : Rat) : (signP k q).size <= 3 := by unfold signP; split <;> split <;> simp [ByteArray.size]
theorem polyTo_size {l : List Trm} {names : List ByteArray} {M : Nat} (h : ∀ t ∈ l, (termB t.coef.q t.mono names).size <= M) : ∀ k, (polyTo l names k).size <= k * (M + 3)
 | 0 => by simp [polyTo, ByteArray.size]
 | k + 1 => by
  have ih := polyTo_size h k
  rw [polyTo]
  split
  ·
   next t ht =>
   have h1 := h t (List.mem_of_getElem? ht)
   have h2 := signP_size k t.coef.q
   rw [ByteArray.size_append, ByteArray.size_append, Nat.succ_mul]
   omega
  · rw [Nat.succ_mul]; omega
inductive Got (α : Type) where
 | ok (v : α) (r : List UInt8)
 | bad (k : Nat) (e : Int)
def Got.bnd {α β : Type} (g : Got α) (f : α -> List UInt8 -> Got β) : Got β := match g with
 | .ok v r => f v r
 | .bad k e => .bad k e
def lost {α : Type} (l : List UInt8) : Got α := if l.length = 0 then .bad 0 10 else .bad l.length 9
def digU (c : UInt8) : Bool := digV c.toNat
def letU (c : UInt8) : Bool := letV c.toNat
def numL : List UInt8 -> Nat
 | [] => 0
 | c :: r => if digU c = true then (if c = 48 then 1 else 1 + (r.takeWhile digU).length) else 0
def decL (l : List UInt8) : Nat := l.foldl (fun a c => 10 * a + (c.toNat - 48)) 0
def numG (l : List UInt8) : Got (List UInt8) := if numL l = 0 then lost l else if 1000 < numL l then .bad l.length 4 else .ok (l.take (numL l)) (l.drop (numL l))
def namL : List UInt8 -> Nat
 | [] => 0
 | c :: r => if letU c = true then 1 + (r.takeWhile wordV).length else 0
def whoV (names : List ByteArray) (s : List UInt8) : Option Nat := (names.take 64).findIdx? fun x => decide (x = ofL s)
def namG (names : List ByteArray) (l : List UInt8) : Got Nat := if namL l = 0 then lost l else match whoV names (l.take (namL l)) with
 | none => .bad l.length 6
 | some v => .ok v (l.drop (namL l))
def powG (names : List ByteArray) (l : List UInt8) : Got (Nat × Int) := (namG names l).bnd fun v r => if r[0]? = some 94 then (numG (r.drop 1)).bnd fun d r2 => if 1048576 < decL d then .bad (r.drop 1).length 4 else .ok (v, decL d) r2 else .ok (v, 1) r
def putM (m : List Int) (p : Nat × Int) : List Int := m.set p.1 (expAt m p.1 + p.2)
def proG (names : List ByteArray) (F : Nat) : Nat -> List Int -> List UInt8 -> Got (List Int)
 | 0, _, _ => .bad 0 4
 | n + 1, m, l => (powG names l).bnd fun p r => if 1048576 < expAt m p.1 + p.2 then .bad F 4 else if r[0]? = some 42 then proG names F n (putM m p) (r.drop 1) else .ok (putM m p) r
def zerM : List Int := List.replicate 64 0
def cutM (m : List Int) : List Int := (m.reverse.dropWhile fun x => decide (x = 0)).reverse
def cofG (l : List UInt8) : Got Rat := (numG l).bnd fun p r => if r[0]? = some 47 then (numG (r.drop 1)).bnd fun q r2 => if decL q = 0 then .bad (r.drop 1).length 3 else .ok (qv false (decL p) (decL q)) r2 else .ok (qv false (decL p) 1) r
def monG (names : List ByteArray) (F : Nat) (q : Rat) (l : List UInt8) : Got (Rat × List Int) := (proG names F (l.length + 1) zerM l).bnd fun m r => .ok (q, cutM m) r
def terG (names : List ByteArray) (l : List UInt8) : Got (Rat × List Int) := if numL l = 0 then monG names l.length 1 l else (cofG l).bnd fun q r => if r[0]? = some 42 then monG names l.length q (r.drop 1) else .ok (q, []) r
def eatG (c : UInt8) (l : List UInt8) : Got Unit := if l[0]? = some c then .ok () (l.drop 1) else lost l
def sepG (l : List UInt8) : Got Bool := (eatG 32 l).bnd fun _ r => if r[0]? = some 45 then (eatG 32 (r.drop 1)).bnd fun _ r' => .ok true r' else (eatG 43 r).bnd fun _ r1 => (eatG 32 r1).bnd fun _ r2 => .ok false r2
def sgnT (neg : Bool) (t : Rat × List Int) : Rat × List Int := (if neg = true then -t.1 else t.1, t.2)
def sumG (names : List ByteArray) : Nat -> Bool -> List (Rat × List Int) -> List UInt8 -> Got (List (Rat × List Int))
 | 0, _, _, _ => .bad 0 4
 | f + 1, neg, acc, l => if acc.length = 4000 then .bad l.length 4 else (terG names l).bnd fun t r => if r.length = 0 then .ok (acc ++ [sgnT neg t]) r else (sepG r).bnd fun ng r' => sumG names f ng (acc ++ [sgnT neg t]) r'
def reaG (names : List ByteArray) (l : List UInt8) : Got (List (Rat × List Int)) := if l[0]? = some 45 then sumG names (l.length + 1) true [] (l.drop 1) else sumG names (l.length + 1) false [] l
theorem decL_snoc (l : List UInt8) (c : UInt8) : decL (l ++ [c]) = 10 * decL l + (c.toNat - 48) := by unfold decL; rw [List.foldl_append]; rfl
theorem dig_nat {d : Nat} (h : d < 10) : (48 + d).toUInt8.toNat = 48 + d := by
 rw [Nat.toUInt8, UInt8.toNat_ofNat']; omega
theorem decL_digs (n : Nat) : decL (digs n) = n := by
 induction n using Nat.strongRecOn with
 | _ n ih =>
  by_cases h : n = 0
  · subst h; rw [digs_zero]; rfl
  ·
   rw [digs_pos h, decL_snoc, ih (n / 10) (by omega), dig_nat (Nat.mod_lt n (by omega)), Nat.add_sub_cancel_left, Nat.mul_comm, Nat.add_comm]
   exact Nat.mod_add_div' n 10
theorem digU_dig {d : Nat} (h : d < 10) : digU (48 + d).toUInt8 = true := by
 unfold digU digV; rw [dig_nat h]; simp; omega
theorem digs_all (n : Nat) : ∀ c ∈ digs n, digU c = true := by
 induction n using Nat.strongRecOn with
 | _ n ih =>
  by_cases h : n = 0
  · subst h; rw [digs_zero]; intro c hc; cases hc
  ·
   rw [digs_pos h]
   intro c hc
   rcases List.mem_append.1 hc with hc | hc
   · exact ih (n / 10) (by omega) c hc
   · rw [List.mem_singleton] at hc; subst hc; exact digU_dig (Nat.mod_lt n (by omega))
theorem digs_head (n : Nat) (h : n ≠ 0) : ∃ c r, digs n = c :: r /\ c ≠ 48 := by
 induction n using Nat.strongRecOn with
 | _ n ih =>
  rw [digs_pos h]
  by_cases h1 : n / 10 = 0
  ·
   rw [h1, digs_zero]
   refine ⟨_, _, rfl, fun e => ?_⟩
   have := congrArg UInt8.toNat e
   rw [dig_nat (Nat.mod_lt _ (by omega))] at this
   have h2 : (48 : UInt8).toNat = 48 := rfl
   omega
  ·
   obtain ⟨c, r, e, hc⟩ := ih (n / 10) (by omega) h1
   exact ⟨c, r ++ [(48 + n % 10).toUInt8], by rw [e]; rfl, hc⟩
def frontN (p : UInt8 -> Bool) (z : List UInt8) : Prop := ∀ c, z[0]? = some c -> p c = false
theorem takeWhile_front {p : UInt8 -> Bool} {l z : List UInt8} (h : ∀ c ∈ l, p c = true) (hz : frontN p z) : (l ++ z).takeWhile p = l := by
 rw [List.takeWhile_append_of_pos h]
 cases z with
 | nil => simp
 | cons c r => rw [List.takeWhile_cons, hz c rfl]; simp
theorem numL_text (n : Nat) (z : List UInt8) (hz : frontN digU z) : numL (textN n ++ z) = (textN n).length := by
 unfold textN
 split
 · next h => rfl
 ·
  next h =>
  obtain ⟨c, r, e, hc⟩ := digs_head n h
  have ha := digs_all n
  rw [e] at ha ⊢
  rw [List.cons_append, numL, if_pos (ha c (by simp)), if_neg hc, takeWhile_front (fun x hx => ha x (by simp [hx])) hz, List.length_cons]
  omega
theorem textN_pos (n : Nat) : 0 < (textN n).length := by
 unfold textN
 split
 · decide
 · next h => exact (digs_len_pos n).2 h
theorem decL_text (n : Nat) : decL (textN n) = n := by
 unfold textN
 split
 · next h => subst h; rfl
 · exact decL_digs n
theorem numG_text (n : Nat) (z : List UInt8) (hz : frontN digU z) (hn : (textN n).length <= 1000) : numG (textN n ++ z) = .ok (textN n) z := by
 have h1 := numL_text n z hz
 have h2 := textN_pos n
 unfold numG
 rw [h1, if_neg (by omega), if_neg (by omega), List.take_left, List.drop_left]
theorem errNm_zero {l : List ByteArray} (h : errNm l = 0) : (∀ s ∈ l, nmB s = true) /\ ∀ (i j : Nat) (s t : ByteArray), i < j -> l[i]? = some s -> l[j]? = some t -> s ≠ t := by
 unfold errNm at h
 split at h
 ·
  next ha =>
  split at h
  · cases h
  ·
   next hd =>
   refine ⟨List.all_eq_true.1 ha, fun i j s t hij hs ht e => hd ?_⟩
   rw [List.any_eq_true]
   refine ⟨j, List.mem_range.2 (lt_of_get ht), ?_⟩
   unfold dupAt
   rw [ht]
   show inB (l.take j) t = true
   unfold inB
   rw [List.any_eq_true]
   refine ⟨s, List.mem_of_getElem? (i := i) ?_, by simp [e]⟩
   rw [List.getElem?_take, if_pos hij, hs]
 · cases h
def endZ (z : List UInt8) : Prop := ∀ c, z[0]? = some c -> c = 32 \/ c = 42 \/ c = 47
theorem endZ.word {z : List UInt8} (h : endZ z) : frontN wordV z := fun c hc => by
 rcases h c hc with e | e | e <;> subst e <;> decide
theorem endZ.dig {z : List UInt8} (h : endZ z) : frontN digU z := fun c hc => by
 rcases h c hc with e | e | e <;> subst e <;> decide
theorem endZ.hat {z : List UInt8} (h : endZ z) : z[0]? ≠ some 94 := fun e => by
 rcases h _ e with e | e | e <;> revert e <;> decide
theorem namL_text {s z : List UInt8} (h : nameV s = true) (hz : frontN wordV z) : namL (s ++ z) = s.length /\ 0 < s.length := by
 cases s with
 | nil => cases h
 | cons c r =>
  have h' : (letV c.toNat && r.all wordV) = true := h
  rw [Bool.and_eq_true, List.all_eq_true] at h'
  refine ⟨?_, by simp⟩
  rw [List.cons_append, namL, if_pos (show letU c = true from h'.1), takeWhile_front h'.2 hz, List.length_cons]
  omega
theorem ofL_self (s : ByteArray) : ofL s.data.toList = s := by unfold ofL; simp
theorem whoV_at {names : List ByteArray} (hn : errNm names = 0) {v : Nat} {s : ByteArray} (h : names[v]? = some s) (hv : v < 64) : whoV names s.data.toList = some v := by
 have hd := (errNm_zero hn).2
 have hl := lt_of_get h
 unfold whoV
 rw [List.findIdx?_eq_some_iff_getElem, ofL_self]
 have hg : ∀ j, (hj : j < (names.take 64).length) -> names[j]? = some (names.take 64)[j] := fun j hj => by
  rw [List.getElem_take, List.getElem?_eq_getElem]
 have hlt : v < (names.take 64).length := by rw [List.length_take]; omega
 refine ⟨hlt, ?_, fun j hj hp => ?_⟩
 ·
  have := hg v hlt
  rw [h] at this; injection this with this
  simp [<- this]
 ·
  have e := of_decide_eq_true hp
  exact hd j v _ s hj (hg j _) h e
theorem namG_text {names : List ByteArray} (hn : errNm names = 0) {v : Nat} {s : ByteArray} (h : names[v]? = some s) (hv : v < 64) {z : List UInt8} (hz : frontN wordV z) : namG names (s.data.toList ++ z) = .ok v z := by
 obtain ⟨h1, h2⟩ := namL_text ((errNm_zero hn).1 s (List.mem_of_getElem? h)) hz
 unfold namG
 rw [h1, if_neg (by omega), List.take_left, whoV_at hn h hv, List.drop_left]
def facL (names : List ByteArray) (p : Nat × Int) : List UInt8 := if p.2 = 1 then (nameA names p.1).data.toList else (nameA names p.1).data.toList ++ 94 :: textN p.2.toNat
def goodP (names : List ByteArray) (p : Nat × Int) : Prop := p.1 < names.length /\ p.1 < 64 /\ 1 <= p.2 /\ p.2 <= 1048576
theorem nameA_at {names : List ByteArray} {v : Nat} (h : v < names.length) : names[v]? = some (nameA names v) := by
 unfold nameA; rw [List.getD_eq_getElem?_getD, List.getElem?_eq_getElem h]; rfl
theorem text_1m {n : Nat} (h : n <= 1048576) : (textN n).length <= 1000 := by
 unfold textN
 split
 · simp
 · have := digs_len 10 n (by omega); omega
theorem powG_text {names : List ByteArray} (hn : errNm names = 0) {p : Nat × Int} (h : goodP names p) {z : List UInt8} (hz : endZ z) : powG names (facL names p ++ z) = .ok p z := by
 obtain ⟨h1, h2, h3, h4⟩ := h
 have hv := nameA_at h1
 unfold facL powG
 by_cases e : p.2 = 1
 ·
  rw [if_pos e, namG_text hn hv h2 hz.word]
  unfold Got.bnd
  dsimp only
  rw [if_neg hz.hat, <- e]
 ·
  rw [if_neg e, List.append_assoc, namG_text hn hv h2 (fun c hc => by simp at hc; subst hc; decide)]
  unfold Got.bnd
  dsimp only
  rw [if_pos (by simp), List.cons_append, List.drop_one, List.tail_cons, numG_text _ _ hz.dig (text_1m (by omega))]
  dsimp only
  rw [decL_text, if_neg (by omega), Int.toNat_of_nonneg (by omega)]
def facsL (names : List ByteArray) : List (Nat × Int) -> List UInt8
 | [] => []
 | p :: r => facL names p ++ r.flatMap fun q => 42 :: facL names q
theorem expAt_put {m : List Int} {p : Nat × Int} (h : p.1 < m.length) (u : Nat) : expAt (putM m p) u = if u = p.1 then expAt m u + p.2 else expAt m u := by
 unfold putM expAt
 simp only [List.getD_eq_getElem?_getD, List.getElem?_set]
 by_cases e : p.1 = u
 · subst e; rw [if_pos rfl, if_pos h, if_pos rfl]; rfl
 · rw [if_neg e, if_neg (fun e' => e e'.symm)]
theorem putM_len (m : List Int) (p : Nat × Int) : (putM m p).length = m.length := by simp [putM]
theorem proG_text {names : List ByteArray} (hn : errNm names = 0) (F : Nat) {z : List UInt8} (hz : endZ z) (hs : z[0]? ≠ some 42) : ∀ (p : Nat × Int) (r : List (Nat × Int)) (n : Nat) (m : List Int), r.length < n -> m.length = 64 ->
  (∀ q ∈ p :: r, goodP names q /\ expAt m q.1 = 0) -> ((p :: r).map (·.1)).Nodup -> proG names F n m (facsL names (p :: r) ++ z) = .ok ((p :: r).foldl putM m) z
 | p, [], n + 1, m, _, hm, hg, _ => by
  obtain ⟨h1, h2⟩ := hg p (by simp)
  rw [show facsL names [p] = facL names p from List.append_nil _, proG, powG_text hn h1 hz]
  unfold Got.bnd
  dsimp only
  have := h1.2.2.2
  rw [if_neg (by omega), if_neg hs]
  rfl
 | p, q :: r, n + 1, m, hl, hm, hg, hd => by
  obtain ⟨h1, h2⟩ := hg p (by simp)
  rw [show facsL names (p :: q :: r) ++ z = facL names p ++ (42 :: (facsL names (q :: r) ++ z)) by simp [facsL], proG, powG_text hn h1 (fun c hc => by simp at hc; subst hc; simp)]
  unfold Got.bnd
  dsimp only
  have h3 := h1.2.2.2
  rw [if_neg (by omega), if_pos (by simp), List.drop_one, List.tail_cons]
  rw [List.map_cons, List.nodup_cons] at hd
  refine (proG_text hn F hz hs q r n (putM m p) (by simp at hl; omega) (by rw [putM_len, hm]) (fun x hx => ?_) hd.2).trans rfl
  obtain ⟨g1, g2⟩ := hg x (List.mem_cons_of_mem _ hx)
  refine ⟨g1, ?_⟩
  rw [expAt_put (by rw [hm]; exact h1.2.1), if_neg, g2]
  intro e
  exact hd.1 (by rw [<- e]; exact List.mem_map.2 ⟨x, hx, rfl⟩)
 | p, r, 0, m, hl, _, _, _ => by omega
def prsF (f : Nat -> Int) (vs : List Nat) : List (Nat × Int) := (vs.map fun v => (v, f v)).filter fun p => decide (0 < p.2)
theorem prsF_cons (f : Nat -> Int) (v : Nat) (vs : List Nat) : prsF f (v :: vs) = if 0 < f v then (v, f v) :: prsF f vs else prsF f vs := by
 unfold prsF
 rw [List.map_cons, List.filter_cons]
 by_cases h : 0 < f v
 · rw [if_pos (by simpa using h), if_pos h]
 · rw [if_neg (by simpa using h), if_neg h]
theorem prsF_exp (f : Nat -> Int) : ∀ (vs : List Nat) (m : List Int), vs.Nodup -> (∀ v ∈ vs, v < m.length) -> ∀ u, expAt ((prsF f vs).foldl putM m) u = if u ∈ vs /\ 0 < f u then expAt m u + f u else expAt m u
 | [], m, _, _, u => by simp [prsF]
 | v :: vs, m, hd, hm, u => by
  rw [List.nodup_cons] at hd
  rw [prsF_cons]
  by_cases h : 0 < f v
  ·
   rw [if_pos h, List.foldl_cons, prsF_exp f vs _ hd.2 (fun x hx => by rw [putM_len]; exact hm x (by simp [hx])) u, expAt_put (hm v (by simp))]
   by_cases e : u = v
   · subst e; rw [if_neg (fun c => hd.1 c.1), if_pos rfl, if_pos ⟨by simp, h⟩]
   · rw [if_neg e]; simp [e]
  ·
   rw [if_neg h, prsF_exp f vs m hd.2 (fun x hx => hm x (by simp [hx])) u]
   by_cases e : u = v
   · subst e; simp [h]
   · simp [e]
theorem prsF_mem {f : Nat -> Int} {vs : List Nat} {p : Nat × Int} (h : p ∈ prsF f vs) : p.1 ∈ vs /\ p.2 = f p.1 /\ 0 < p.2 := by
 unfold prsF at h
 rw [List.mem_filter, List.mem_map] at h
 obtain ⟨⟨v, hv, rfl⟩, h2⟩ := h
 exact ⟨hv, rfl, by simpa using h2⟩
theorem prsF_nodup {f : Nat -> Int} : ∀ {vs : List Nat}, vs.Nodup -> ((prsF f vs).map (·.1)).Nodup
 | [], _ => by simp [prsF]
 | v :: vs, h => by
  rw [List.nodup_cons] at h
  rw [prsF_cons]
  have ih := prsF_nodup (f := f) h.2
  split
  ·
   rw [List.map_cons, List.nodup_cons]
   refine ⟨fun hc => ?_, ih⟩
   obtain ⟨p, hp, e⟩ := List.mem_map.1 hc
   have := (prsF_mem hp).1
   rw [e] at this
   exact h.1 this
  · exact ih
theorem prsF_len (f : Nat -> Int) (vs : List Nat) : (prsF f vs).length <= vs.length := by
 unfold prsF
 have := List.length_filter_le (fun p : Nat × Int => decide (0 < p.2)) (vs.map fun v => (v, f v))
 simpa using this
theorem cutM_zeros (a : List Int) : ∃ z, a = cutM a ++ z /\ (∀ x ∈ z, x = 0) /\ (cutM a)[(cutM a).length - 1]? ≠ some 0 := by
 have h := List.takeWhile_append_dropWhile (p := fun x : Int => decide (x = 0)) (l := a.reverse)
 refine ⟨(a.reverse.takeWhile fun x => decide (x = 0)).reverse, ?_, fun x hx => ?_, ?_⟩
 ·
  unfold cutM
  rw [<- List.reverse_append, h, List.reverse_reverse]
 ·
  rw [List.mem_reverse] at hx
  have := List.all_eq_true.1 (List.all_takeWhile (p := fun x : Int => decide (x = 0)) (l := a.reverse)) x hx
  simpa using this
 ·
  unfold cutM
  intro e
  rw [<- List.getLast?_eq_getElem?, List.getLast?_reverse] at e
  have hh := List.head?_dropWhile_not (fun x : Int => decide (x = 0)) a.reverse
  rw [e] at hh
  simp at hh
theorem expAt_app (a z : List Int) (hz : ∀ x ∈ z, x = 0) (u : Nat) : expAt (a ++ z) u = expAt a u := by
 unfold expAt
 rw [List.getD_eq_getElem?_getD, List.getD_eq_getElem?_getD, List.getElem?_append]
 split
 · rfl
 ·
  next h =>
  rw [List.getElem?_eq_none (l := a) (by omega)]
  cases hx : z[u - a.length]? with
  | none => rfl
  | some x => exact hz x (List.mem_of_getElem? hx)
theorem cutM_exp (a : List Int) (u : Nat) : expAt (cutM a) u = expAt a u := by
 obtain ⟨z, h1, h2, _⟩ := cutM_zeros a
 conv => rhs; rw [h1]
 rw [expAt_app _ _ h2]
theorem cutM_eq {a m : List Int} (ha : a.length <= 64) (hm : monoB m = true) (h : ∀ u, expAt a u = expAt m u) : cutM a = m := by
 obtain ⟨z, h1, h2, h3⟩ := cutM_zeros a
 obtain ⟨g1, g2⟩ := monoB_mem hm
 have gl : m[m.length - 1]? ≠ some 0 := fun e => by rw [monoB_last e] at hm; cases hm
 have he : ∀ u, expAt (cutM a) u = expAt m u := fun u => (cutM_exp a u).trans (h u)
 have hl : (cutM a).length <= 64 := by have := congrArg List.length h1; rw [List.length_append] at this; omega
 refine mok_ext (B := 1048576) (B' := 1048576) ⟨fun x hx => ?_, h3, hl⟩ ⟨g2, gl, g1⟩ he
 obtain ⟨i, hi⟩ := List.getElem?_of_mem hx
 have := he i
 rw [expAt_get hi] at this
 rw [this]
 exact expAt_in g2 i
theorem zerM_exp (u : Nat) : expAt zerM u = 0 := by
 unfold expAt zerM
 rw [List.getD_eq_getElem?_getD, List.getElem?_replicate]
 split <;> rfl
def prsM (m : List Int) : List (Nat × Int) := prsF (expAt m) (List.range m.length)
theorem fold_len (l : List (Nat × Int)) (m : List Int) : (l.foldl putM m).length = m.length := by
 induction l generalizing m with
 | nil => rfl
 | cons p r ih => rw [List.foldl_cons, ih, putM_len]
theorem prsM_back {m : List Int} (hm : monoB m = true) : cutM ((prsM m).foldl putM zerM) = m := by
 have g := monoB_mem hm
 have hz : zerM.length = 64 := by simp [zerM]
 refine cutM_eq (by rw [fold_len, hz]; omega) hm fun u => ?_
 unfold prsM
 rw [prsF_exp _ _ _ List.nodup_range (fun v hv => by rw [hz]; have := List.mem_range.1 hv; omega), zerM_exp]
 have h0 := (expAt_in g.2 u).1
 split
 · omega
 ·
  next hc =>
  apply Decidable.byContradiction
  intro hne
  exact hc ⟨List.mem_range.2 (expAt_lt (fun e => hne e.symm)), by omega⟩
theorem prsM_ne {m : List Int} (hm : monoB m = true) (h0 : m.length ≠ 0) : prsM m ≠ [] := fun e => by
 have hb := prsM_back hm
 rw [e] at hb
 have : cutM zerM = [] := by decide
 rw [List.foldl_nil, this] at hb
 rw [<- hb] at h0
 exact h0 rfl
theorem monG_text {names : List ByteArray} (hn : errNm names = 0) (F : Nat) (q : Rat) {m : List Int} (hm : monoB m = true) (hl : m.length <= names.length) (h0 : m.length ≠ 0) {z : List UInt8} (hz : endZ z) (hs : z[0]? ≠ some 42) :
  monG names F q (facsL names (prsM m) ++ z) = .ok (q, m) z := by
 have g := monoB_mem hm
 have hne := prsM_ne hm h0
 have hb := prsM_back hm
 have hlen := prsF_len (expAt m) (List.range m.length)
 have hnd := prsF_nodup (f := expAt m) (List.nodup_range (n := m.length))
 have hmem : ∀ p ∈ prsM m, goodP names p /\ expAt zerM p.1 = 0 := fun p hp => by
  obtain ⟨h1, h2, h3⟩ := prsF_mem hp
  have h1' := List.mem_range.1 h1
  refine ⟨⟨by omega, by omega, by omega, ?_⟩, zerM_exp _⟩
  rw [h2]; exact (expAt_in g.2 _).2
 unfold monG
 change (prsM m).length <= _ at hlen
 change ((prsM m).map (·.1)).Nodup at hnd
 generalize prsM m = l at hne hb hlen hnd hmem ⊢
 cases l with
 | nil => exact absurd rfl hne
 | cons p r =>
  have hlo : r.length < (facsL names (p :: r) ++ z).length + 1 := by
   have : r.length <= (r.flatMap fun q => 42 :: facL names q).length := by
    clear hne hb hlen hnd hmem
    induction r with
    | nil => simp
    | cons x r ih => rw [List.flatMap_cons, List.length_append, List.length_cons, List.length_cons]; omega
   unfold facsL
   rw [List.length_append, List.length_append]; omega
  rw [proG_text hn F hz hs p r _ zerM hlo (by simp [zerM]) hmem hnd]
  unfold Got.bnd
  dsimp only
  rw [hb]
theorem ofL_list (l : List UInt8) : (ofL l).data.toList = l := by unfold ofL; simp
theorem absQ_nonneg (q : Rat) : 0 <= absQ q := by
 unfold absQ
 split
 · next h => have := Rat.neg_le_neg (Rat.le_of_lt h); simpa using this
 · next h => exact Rat.not_lt.1 h
theorem textQ_pos {q : Rat} (h : 0 <= q) : textQ q = if q.den = 1 then textN q.num.natAbs else textN q.num.natAbs ++ 47 :: textN q.den := by
 have hn : decide (q.num < 0) = false := by
  have := Rat.num_nonneg.2 h
  simp; omega
 unfold textQ textF trip textZ
 dsimp only
 rw [hn]
 simp
theorem qv_back {q : Rat} (h : 0 <= q) : qv false q.num.natAbs q.den = q := by
 have hn : decide (q.num < 0) = false := by
  have := Rat.num_nonneg.2 h
  simp; omega
 have := qv_parts q
 rwa [hn] at this
def shortQ (q : Rat) : Prop := (textN q.num.natAbs).length <= 1000 /\ (textN q.den).length <= 1000
theorem numL_textQ {q : Rat} (h : 0 <= q) (z : List UInt8) (hz : frontN digU z) : numL (textQ q ++ z) ≠ 0 := by
 have h1 := textN_pos q.num.natAbs
 rw [textQ_pos h]
 split
 · rw [numL_text _ _ hz]; omega
 · rw [List.append_assoc, numL_text _ _ (fun c hc => by simp at hc; subst hc; decide)]; omega
theorem cofG_text {q : Rat} (h : 0 <= q) (hs : shortQ q) {z : List UInt8} (hz : endZ z) (h47 : z[0]? ≠ some 47) : cofG (textQ q ++ z) = .ok q z := by
 have hb := qv_back h
 rw [textQ_pos h]
 unfold cofG
 split
 ·
  next hd =>
  rw [numG_text _ _ hz.dig hs.1]
  unfold Got.bnd
  dsimp only
  rw [if_neg h47, decL_text, <- hd, hb]
 ·
  next hd =>
  rw [List.append_assoc, numG_text _ _ (fun c hc => by simp at hc; subst hc; decide) hs.1]
  unfold Got.bnd
  dsimp only
  rw [if_pos (by simp), List.cons_append, List.drop_one, List.tail_cons, numG_text _ _ hz.dig hs.2]
  dsimp only
  rw [decL_text, decL_text, if_neg q.den_nz, hb]
theorem facP_list (names : List ByteArray) (v : Nat) (x : Int) : (facP names v x).map (·.data.toList) = if 0 < x then [facL names (v, x)] else [] := by
 unfold facP facL
 by_cases h1 : x = 1
 · rw [if_pos h1, if_pos (by omega), if_pos h1]; rfl
 ·
  rw [if_neg h1]
  by_cases h2 : 1 < x
  ·
   rw [if_pos h2, if_pos (by omega), if_neg h1]
   simp [ByteArray.data_append, ofL_list]
  · rw [if_neg h2, if_neg (by omega)]; rfl
theorem facs_list (names : List ByteArray) (f : Nat -> Int) : ∀ vs : List Nat, (vs.flatMap fun v => facP names v (f v)).map (·.data.toList) = (prsF f vs).map (facL names)
 | [] => rfl
 | v :: vs => by
  rw [List.flatMap_cons, List.map_append, facP_list, facs_list names f vs, prsF_cons]
  split <;> simp
theorem joinTail_flat (r : List (List UInt8)) : Lib.joinTail [42] r = r.flatMap fun x => 42 :: x := by
 unfold Lib.joinTail
 induction r with
 | nil => rfl
 | cons x r ih => rw [List.map_cons, List.flatten_cons, List.flatMap_cons, ih]; rfl
def termL (names : List ByteArray) (q : Rat) (m : List Int) : List UInt8 := if m.length = 0 \/ absQ q ≠ 1 then textQ (absQ q) ++ (prsM m).flatMap fun p => 42 :: facL names p else facsL names (prsM m)
theorem termB_list (names : List ByteArray) (q : Rat) (m : List Int) : (termB q m names).data.toList = termL names q m := by
 have e : (termB q m names).data.toList = Lib.join ((partsT q m names m.length).map (·.data.toList)) [42] := ofL_list _
 rw [e]
 unfold partsT cofP termL
 rw [List.map_append, facs_list]
 change Lib.join (_ ++ (prsM m).map (facL names)) [42] = _
 split
 · rw [List.map_cons, List.map_nil, List.singleton_append, Lib.join_cons, joinTail_flat, ofL_list, List.flatMap_map]
 ·
  rw [List.map_nil, List.nil_append]
  generalize prsM m = l
  cases l with
  | nil => rfl
  | cons p r => rw [List.map_cons, Lib.join_cons, joinTail_flat, List.flatMap_map]; rfl
theorem facL_front {names : List ByteArray} (hn : errNm names = 0) {p : Nat × Int} (h : goodP names p) (z : List UInt8) : ∃ c r, facL names p ++ z = c :: r /\ letU c = true := by
 have hm := (errNm_zero hn).1 _ (List.mem_of_getElem? (nameA_at h.1))
 have hm' : nameV (nameA names p.1).data.toList = true := hm
 have : ∃ c r, (nameA names p.1).data.toList = c :: r /\ letU c = true := by
  cases hx : (nameA names p.1).data.toList with
  | nil => rw [hx] at hm'; cases hm'
  | cons c r =>
   rw [hx] at hm'
   have h' : (letV c.toNat && r.all wordV) = true := hm'
   exact ⟨c, r, rfl, (Bool.and_eq_true _ _ ▸ h').1⟩
 obtain ⟨c, r, e, hc⟩ := this
 unfold facL
 split
 · exact ⟨c, r ++ z, by rw [e]; rfl, hc⟩
 · exact ⟨c, _, by rw [e]; rfl, hc⟩
theorem numL_letter {c : UInt8} (r : List UInt8) (h : letU c = true) : numL (c :: r) = 0 := by
 rw [numL, if_neg]
 unfold letU letV at h
 unfold digU digV
 rw [decide_eq_true_eq] at h
 simp
 omega
theorem prsM_good {names : List ByteArray} {m : List Int} (hm : monoB m = true) (hl : m.length <= names.length) : ∀ p ∈ prsM m, goodP names p := fun p hp => by
 have g := monoB_mem hm
 obtain ⟨h1, h2, h3⟩ := prsF_mem hp
 have h1' := List.mem_range.1 h1
 exact ⟨by omega, by omega, by omega, by rw [h2]; exact (expAt_in g.2 _).2⟩
theorem terG_text {names : List ByteArray} (hn : errNm names = 0) {q : Rat} {m : List Int} (hm : monoB m = true) (hl : m.length <= names.length) (hs : shortQ (absQ q)) {z : List UInt8} (hz : endZ z) (h42 : z[0]? ≠ some 42) (h47 : z[0]? ≠ some 47) :
  terG names (termL names q m ++ z) = .ok (absQ q, m) z := by
 have hp := absQ_nonneg q
 have hgood := prsM_good hm hl
 unfold termL terG
 by_cases h0 : m.length = 0
 ·
  have e0 : m = [] := List.length_eq_zero_iff.1 h0
  subst e0
  have hor : (([] : List Int).length = 0 \/ absQ q ≠ 1) := .inl rfl
  rw [if_pos hor, show prsM [] = [] from rfl, List.flatMap_nil, List.append_nil, if_neg (numL_textQ hp _ hz.dig), cofG_text hp hs hz h47]
  unfold Got.bnd
  dsimp only
  rw [if_neg h42]
 ·
  have hne := prsM_ne hm h0
  have hb := fun F q' => monG_text hn F q' hm hl h0 hz h42
  split
  ·
   have ht : ((prsM m).flatMap fun p => 42 :: facL names p) = 42 :: facsL names (prsM m) := by
    generalize prsM m = l at hne ⊢
    cases l with
    | nil => exact absurd rfl hne
    | cons p r => rw [List.flatMap_cons]; rfl
   have hz2 : endZ (42 :: (facsL names (prsM m) ++ z)) := fun c hc => by simp at hc; subst hc; simp
   rw [ht, List.append_assoc, List.cons_append, if_neg (numL_textQ hp _ hz2.dig), cofG_text hp hs hz2 (by simp)]
   unfold Got.bnd
   dsimp only
   rw [if_pos (by simp), List.drop_one, List.tail_cons, hb]
  ·
   next hc =>
   have hq : absQ q = 1 := Decidable.byContradiction fun e => hc (.inr e)
   have hf : numL (facsL names (prsM m) ++ z) = 0 := by
    generalize prsM m = l at hne hgood ⊢
    cases l with
    | nil => exact absurd rfl hne
    | cons p r =>
     unfold facsL
     rw [List.append_assoc]
     obtain ⟨c, r', e, hc⟩ := facL_front hn (hgood p (by simp)) ((r.flatMap fun q => 42 :: facL names q) ++ z)
     rw [e]
     exact numL_letter r' hc
   rw [if_pos hf, hb, hq]
def trmQ (t : Trm) : Rat × List Int := (t.coef.q, t.mono)
theorem sgnT_back (q : Rat) (m : List Int) : sgnT (decide (q < 0)) (absQ q, m) = (q, m) := by
 unfold sgnT absQ
 by_cases h : q < 0
 · simp [h, Rat.neg_neg]
 · simp [h]
def sepL (q : Rat) : List UInt8 := if q < 0 then [32, 45, 32] else [32, 43, 32]
def tailL (names : List ByteArray) (l : List Trm) : List UInt8 := l.flatMap fun t => sepL t.coef.q ++ termL names t.coef.q t.mono
def goodT (names : List ByteArray) (t : Trm) : Prop := monoB t.mono = true /\ t.mono.length <= names.length /\ shortQ (absQ t.coef.q)
theorem tailL_end (names : List ByteArray) (l : List Trm) : endZ (tailL names l) /\ (tailL names l)[0]? ≠ some 42 /\ (tailL names l)[0]? ≠ some 47 := by
 cases l with
 | nil => exact ⟨fun c hc => by simp [tailL] at hc, by simp [tailL], by simp [tailL]⟩
 | cons t r =>
  have : (tailL names (t :: r))[0]? = some 32 := by
   unfold tailL sepL
   rw [List.flatMap_cons]
   split <;> rfl
  rw [endZ, this]
  exact ⟨fun c hc => by simp at hc; exact .inl hc.symm, by decide, by decide⟩
theorem sepG_text (q : Rat) (z : List UInt8) : sepG (sepL q ++ z) = .ok (decide (q < 0)) z := by
 unfold sepL
 by_cases h : q < 0
 ·
  rw [if_pos h, decide_eq_true h]
  simp [sepG, eatG, Got.bnd]
 ·
  rw [if_neg h, decide_eq_false h]
  simp [sepG, eatG, Got.bnd]
theorem sumG_text {names : List ByteArray} (hn : errNm names = 0) : ∀ (r : List Trm) (t : Trm) (f : Nat) (acc : List (Rat × List Int)), r.length < f -> acc.length + r.length < 4000 -> (∀ x ∈ t :: r, goodT names x) ->
  sumG names f (decide (t.coef.q < 0)) acc (termL names t.coef.q t.mono ++ tailL names r) = .ok (acc ++ (t :: r).map trmQ) []
 | [], t, f + 1, acc, _, ha, hg => by
  obtain ⟨h1, h2, h3⟩ := hg t (by simp)
  have he := tailL_end names []
  rw [sumG, if_neg (by simp at ha; omega), terG_text hn h1 h2 h3 he.1 he.2.1 he.2.2]
  unfold Got.bnd
  dsimp only
  rw [if_pos (show (tailL names []).length = 0 from rfl), sgnT_back]
  rfl
 | u :: r, t, f + 1, acc, hf, ha, hg => by
  obtain ⟨h1, h2, h3⟩ := hg t (by simp)
  have he := tailL_end names (u :: r)
  rw [List.length_cons] at hf ha
  rw [sumG, if_neg (by omega), terG_text hn h1 h2 h3 he.1 he.2.1 he.2.2]
  have hl : (tailL names (u :: r)).length ≠ 0 := by
   unfold tailL sepL
   rw [List.flatMap_cons]
   split <;> simp
  have ht : tailL names (u :: r) = sepL u.coef.q ++ (termL names u.coef.q u.mono ++ tailL names r) := by
   unfold tailL; rw [List.flatMap_cons, List.append_assoc]
  unfold Got.bnd
  dsimp only
  rw [if_neg hl, ht, sepG_text, sgnT_back]
  dsimp only
  change sumG names f (decide (u.coef.q < 0)) (acc ++ [trmQ t]) _ = _
  rw [sumG_text hn r u f (acc ++ [trmQ t]) (by omega) (by simp; omega) (fun x hx => hg x (List.mem_cons_of_mem _ hx))]
  simp
 | r, t, 0, acc, hf, _, _ => by omega
def bodyL (names : List ByteArray) : List Trm -> List UInt8
 | [] => []
 | t :: r => (if t.coef.q < 0 then [45] else []) ++ (termL names t.coef.q t.mono ++ tailL names r)
theorem polyTo_list (names : List ByteArray) (t : Trm) (r : List Trm) : ∀ k, k <= r.length -> (polyTo (t :: r) names (k + 1)).data.toList ++ tailL names (r.drop k) = bodyL names (t :: r)
 | 0, _ => by
  rw [polyTo_succ (t := t) rfl]
  unfold bodyL signP polyTo
  rw [if_pos rfl, List.drop_zero]
  simp only [ByteArray.data_append, Array.toList_append, termB_list]
  split <;> simp
 | k + 1, h => by
  have hk : k < r.length := by omega
  have ih := polyTo_list names t r k (by omega)
  rw [List.drop_eq_getElem_cons hk] at ih
  rw [polyTo_succ (t := r[k]) (by rw [List.getElem?_cons_succ, List.getElem?_eq_getElem hk])]
  rw [<- ih]
  unfold signP tailL sepL
  rw [if_neg (by omega)]
  simp only [ByteArray.data_append, Array.toList_append, termB_list, List.flatMap_cons, List.append_assoc]
  split <;> simp
theorem polyTo_all (names : List ByteArray) (l : List Trm) : (polyTo l names l.length).data.toList = bodyL names l := by
 cases l with
 | nil => rfl
 | cons t r =>
  have := polyTo_list names t r r.length (nlr _)
  rw [List.drop_length] at this
  simpa [tailL] using this
theorem termL_front {names : List ByteArray} (hn : errNm names = 0) {t : Trm} (ht : goodT names t) (z : List UInt8) : (termL names t.coef.q t.mono ++ z)[0]? ≠ some 45 := by
 obtain ⟨h1, h2, h3⟩ := ht
 have hgood := prsM_good h1 h2
 unfold termL
 split
 ·
  rw [List.append_assoc, textQ_pos (absQ_nonneg _)]
  have hx : ∀ y, (textN (absQ t.coef.q).num.natAbs ++ y)[0]? ≠ some 45 := fun y e => by
   have h4 := numL_text (absQ t.coef.q).num.natAbs [] (fun c hc => by simp at hc)
   have h5 := textN_pos (absQ t.coef.q).num.natAbs
   rw [List.append_nil] at h4
   cases hc : textN (absQ t.coef.q).num.natAbs with
   | nil => rw [hc] at h5; simp at h5
   | cons c r =>
    rw [hc] at e h4
    have e' : c = 45 := by simpa using e
    subst e'
    have : numL (45 :: r) = 0 := by rw [numL, if_neg (by decide)]
    rw [this] at h4
    simp at h4
  split
  · exact hx _
  · rw [List.append_assoc]; exact hx _
 ·
  next hc =>
  have hne := prsM_ne h1 (fun e => hc (.inl e))
  generalize prsM t.mono = l at hne hgood ⊢
  cases l with
  | nil => exact absurd rfl hne
  | cons p r =>
   unfold facsL
   rw [List.append_assoc]
   obtain ⟨c, r', e, hl⟩ := facL_front hn (hgood p (by simp)) ((r.flatMap fun q => 42 :: facL names q) ++ z)
   rw [e]
   intro e2
   have e3 : c = 45 := by simpa using e2
   subst e3
   revert hl; decide
theorem reaG_text {names : List ByteArray} (hn : errNm names = 0) {l : List Trm} (h0 : l ≠ []) (hl : l.length <= 4000) (hg : ∀ t ∈ l, goodT names t) : reaG names (bodyL names l) = .ok (l.map trmQ) [] := by
 cases l with
 | nil => exact absurd rfl h0
 | cons t r =>
  have hlen : r.length <= (tailL names r).length := by
   unfold tailL
   clear hl hg h0
   induction r with
   | nil => simp
   | cons x r ih => rw [List.flatMap_cons, List.length_append, List.length_append, List.length_cons]; have : (sepL x.coef.q).length = 3 := by { unfold sepL; split <;> rfl }; omega
  rw [List.length_cons] at hl
  rw [bodyL]
  unfold reaG
  by_cases hs : t.coef.q < 0
  ·
   rw [if_pos hs, if_pos (by rfl)]
   have := sumG_text hn r t ([45] ++ (termL names t.coef.q t.mono ++ tailL names r)).length.succ [] (by simp; omega) (by simp; omega) hg
   rw [decide_eq_true hs] at this
   exact this
  ·
   rw [if_neg hs, List.nil_append, if_neg (termL_front hn (hg t (by simp)) _)]
   have := sumG_text hn r t (termL names t.coef.q t.mono ++ tailL names r).length.succ [] (by rw [List.length_append]; omega) (by simp; omega) hg
   rw [decide_eq_false hs] at this
   exact this
theorem reaG_zero (names : List ByteArray) : reaG names [48] = .ok [(0, [])] [] := by
 have h : (digU 48) = true := by decide
 simp [reaG, sumG, terG, cofG, numG, numL, h, Got.bnd, decL, sgnT, qv_zero]
end Go.Proofs.YtkjnkpkagcboeaaGreatDoor
