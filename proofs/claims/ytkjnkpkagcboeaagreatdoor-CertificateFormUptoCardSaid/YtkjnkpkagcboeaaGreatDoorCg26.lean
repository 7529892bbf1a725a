/- The row of CertificateForm and its card: for each input the call returns true, and each argument reads behind the call as it read before. The row lists tables and errors of Go's library as its text lays them. Condition: the arguments hold together at most 1048576 values and letters. -/
import Derived.Test.YtkjnkpkagcboeaaGreatDoorCg25
import Derived.Test.YtkjnkpkagcboeaaGreatDoorCg23
import Derived.Test.YtkjnkpkagcboeaaGreatDoorCg1
import Derived.JoinedCond
import Derived.Test.YtkjnkpkagcboeaaGreatDoorCards
import Derived.Test.YtkjnkpkagcboeaaGreatDoorTie
import Derived.ChangeMaps5
import Derived.WalkKit
import Derived.ProofKit
import Derived.OpenShut
import Derived.Deep.DeepHandedRow
import Derived.Lib.LaidTab
import Derived.Lay
set_option linter.all false
set_option maxRecDepth 100000
set_option maxHeartbeats 4000000
namespace Go.Proofs.YtkjnkpkagcboeaaGreatDoor
open Go.RowKit
theorem flat_le {α : Type} {f : α -> List UInt8} {L : List α} {x : α} (h : x ∈ L) : (f x).length <= (L.flatMap f).length := by
 induction L with
 | nil => cases h
 | cons y L ih =>
  rw [List.flatMap_cons, List.length_append]
  rcases List.mem_cons.1 h with e | h
  · subst e; omega
  · have := ih h; omega
theorem flat_cnt {α : Type} {f : α -> List UInt8} {L : List α} (h : ∀ x ∈ L, 0 < (f x).length) : L.length <= (L.flatMap f).length := by
 induction L with
 | nil => simp
 | cons y L ih =>
  rw [List.flatMap_cons, List.length_append, List.length_cons]
  have h1 := h y (by simp)
  have h2 := ih fun x hx => h x (by simp [hx])
  omega
def lstF (l : List (List Tm)) : List (List Trm) := l.map (·.map trmOf)
theorem lstF_back (l : List (List Tm)) : (lstF l).map (·.map trmQ) = l := by
 unfold lstF
 rw [List.map_map]
 conv => rhs; rw [<- List.map_id l]
 exact List.map_congr_left fun p _ => map_of p
theorem lstF_mem {l : List (List Tm)} {q : List Trm} (h : q ∈ lstF l) : ∃ p ∈ l, q = p.map trmOf := by
 obtain ⟨p, hp, rfl⟩ := List.mem_map.1 h
 exact ⟨p, hp, rfl⟩
theorem form_facts {names : List ByteArray} {s : List UInt8} {c : CrQ} (h : CrOk names c) (hs : headQ names c ++ (wEnd ++ [10]) = s) (hf : FineC c) :
  crtB ⟨lstF c.F, c.P, c.n, lstF c.C⟩ = true /\ textC names (lstF c.F) (lstF c.C) c.P c.n true = (ofL s, 0) /\ (∀ p ∈ lstF c.F, (printP p names).1.size <= s.length) /\ (∀ p ∈ lstF c.C, (printP p names).1.size <= s.length) /\ c.F.length <= s.length /\ c.C.length <= s.length := by
 have h' := h
 obtain ⟨h1, h2, h3, h4, h5⟩ := h
 have bF : ∀ p ∈ lstF c.F, polyB p = true := fun p hp => by obtain ⟨q, hq, rfl⟩ := lstF_mem hp; exact polyB_of (h4 q hq).2.1
 have bC : ∀ p ∈ lstF c.C, polyB p = true := fun p hp => by obtain ⟨q, hq, rfl⟩ := lstF_mem hp; exact polyB_of (h5 q hq).1
 have hzl : (List.zip c.P c.F).length = c.F.length := by rw [List.length_zip]; omega
 have hsl : s.length = (headQ names c).length + 4 := by rw [<- hs]; simp [wEnd]
 have hhd : ((List.zip c.P c.F).flatMap fun x => lnFQ x.1 (printT names x.2).1 ++ [10]).length <= (headQ names c).length /\ (c.C.flatMap fun p => lnCQ (printT names p).1 ++ [10]).length <= (headQ names c).length := by
  unfold headQ
  rw [List.length_append, List.length_append]
  omega
 refine ⟨crtB_good ?_ h1 ?_ ?_, ?_, ?_, ?_, ?_, ?_⟩
 · show c.P.length = (lstF c.F).length; rw [h2]; unfold lstF; rw [List.length_map]
 ·
  intro k hk
  have hk2 : k < (lstF c.F).length := hk
  obtain ⟨q, hq⟩ := get_of_lt hk2
  obtain ⟨x, hx⟩ := get_of_lt (xs := c.P) (k := k) (by unfold lstF at hk2; rw [List.length_map] at hk2; omega)
  rw [facB_of (c := ⟨lstF c.F, c.P, c.n, lstF c.C⟩) hx hq]
  obtain ⟨p, hp, rfl⟩ := lstF_mem (List.mem_of_getElem? hq)
  rw [decide_eq_true (h3 x (List.mem_of_getElem? hx)), polyB_of (h4 p hp).2.1, List.length_map, decide_eq_false (fun e => (h4 p hp).1 (List.eq_nil_of_length_eq_zero e))]
  rfl
 ·
  rw [List.take_length, List.all_eq_true]
  exact bC
 ·
  have := textC_head (names := names) (F := lstF c.F) (C := lstF c.C) (P := c.P) (n := c.n) bF bC (by rw [lstF_back, lstF_back]; exact h')
  rw [lstF_back, lstF_back] at this
  rw [this, <- hs]
 ·
  intro p hp
  have hb := bF p hp
  obtain ⟨q, hq, rfl⟩ := lstF_mem hp
  rw [printT_of hb, map_of]
  show (ofL _).size <= _
  rw [ofL_size]
  obtain ⟨k, hk⟩ := List.getElem?_of_mem hq
  obtain ⟨x, hx⟩ := get_of_lt (xs := c.P) (k := k) (by have := lt_of_get hk; omega)
  have hz : (List.zip c.P c.F)[k]? = some (x, q) := by rw [List.getElem?_zip_eq_some]; exact ⟨hx, hk⟩
  have := flat_le (f := fun x => lnFQ x.1 (printT names x.2).1 ++ [10]) (List.mem_of_getElem? hz)
  unfold lnFQ at this hhd
  simp only [List.length_append, List.length_cons] at this
  omega
 ·
  intro p hp
  have hb := bC p hp
  obtain ⟨q, hq, rfl⟩ := lstF_mem hp
  rw [printT_of hb, map_of]
  show (ofL _).size <= _
  rw [ofL_size]
  have := flat_le (f := fun p => lnCQ (printT names p).1 ++ [10]) hq
  unfold lnCQ at this hhd
  simp only [List.length_append, List.length_cons] at this
  omega
 ·
  have := flat_cnt (f := fun x => lnFQ x.1 (printT names x.2).1 ++ [10]) (L := List.zip c.P c.F) fun x _ => by rw [List.length_append]; simp
  omega
 ·
  have := flat_cnt (f := fun p => lnCQ (printT names p).1 ++ [10]) (L := c.C) fun x _ => by rw [List.length_append]; simp
  omega
theorem certificateForm_str (s : ByteArray) (names : List ByteArray) (na : Option Addr) (nc : Nat) (w : World) (hE : ∀ W, Below w.heap.size w W -> EnvC names na nc W) (hnz : ∀ s ∈ names, s.size <= 1048576) :
  Calls Tryz.prog 9 #[.string s, .slice na names.length nc] w fun e w' => e = .returned (.bool true) /\ Below w.heap.size w w' := by
 have hlN := (hE w brf).1.len
 have HE := Hd hE; have HNZ := Hd hnz
 have hb0 := Below.refl w.heap.size w
 clear hE hnz
 by_cases h2 : 2000 < s.size
 ·
  have d2 : decide (2000 < s.size) = true := decide_eq_true h2
  go_enter Tryz.func9, Tryz.ntmps9
  go_wp2
  go_ret
  exact ⟨rfl, hb0⟩
 have d2 : decide (2000 < s.size) = false := decide_eq_false h2
 by_cases h8 : 8 < names.length
 ·
  have d8 : decide (8 < names.length) = true := decide_eq_true h8
  go_enter Tryz.func9, Tryz.ntmps9
  go_wp2
  go_ret
  exact ⟨rfl, hb0⟩
 have d8 : decide (8 < names.length) = false := decide_eq_false h8
 have hsl : s.data.toList.length = s.size := Array.length_toList
 have hW := lines_short (names := names) (s := s.data.toList) (by omega)
 have CR := certRead_any s names na nc w HE.out HNZ.out (by omega) (by omega) (by have := (linesL_len s.data.toList).2; omega) hW
 have hfine := readQ_fine hW
 have hform := fun c k (e : readQ names s.data.toList = (c, k, 0)) => readQ_form e
 have hbad := fun c k er (e : readQ names s.data.toList = (c, k, er)) (h0 : er ≠ 0) => readQ_bad e h0
 obtain ⟨R, hR⟩ : ∃ R, readQ names s.data.toList = R := ⟨_, rfl⟩
 rw [hR] at CR hfine
 simp only [hR] at hform hbad
 obtain ⟨c, k, er⟩ := R
 replace CR := Hd CR; replace hsl := Hd hsl
 clear hW hR
 go_enter Tryz.func9, Tryz.ntmps9
 go_wp2_with fail
 refine CR.out.mono ?_
 rintro e w1 ⟨fb, wb, cb, fd, wd, cd, rfl, hb1, k1, k2, k3⟩
 dsimp only at k1 k2 k3 ⊢
 clear CR
 by_cases he : er = 0
 ·
  subst he
  obtain ⟨rfl, hok, hsx⟩ := hform c k rfl
  obtain ⟨f1, f2, f3, f4, f5, f6⟩ := form_facts hok hsx hfine
  rw [ofL_data] at f2
  have fc : ∀ p, p ∈ lstF c.F \/ p ∈ lstF c.C -> p.length <= 1000 /\ ∀ t ∈ p, t.coef.num.length <= 1000 /\ t.coef.den.length <= 1000 := fun p hp => by
   have key : ∀ q, (q ∈ c.F \/ q ∈ c.C) -> (q.map trmOf).length <= 1000 /\ ∀ t ∈ q.map trmOf, t.coef.num.length <= 1000 /\ t.coef.den.length <= 1000 := fun q hq => by
    obtain ⟨a, b⟩ := hfine q hq
    exact ⟨by rw [List.length_map]; omega, few_of a⟩
   rcases hp with hp | hp
   · obtain ⟨q, hq, rfl⟩ := lstF_mem hp; exact key q (.inl hq)
   · obtain ⟨q, hq, rfl⟩ := lstF_mem hp; exact key q (.inr hq)
  have lF : (lstF c.F).length = c.F.length := List.length_map _
  have lC : (lstF c.C).length = c.C.length := List.length_map _
  have hn : InInt c.n := ⟨by have := hok.1; omega, by have := hok.1; omega⟩
  have CT := fun W (hW : Below w1.heap.size w1 W) => certSM_any 2000 (lstF c.F) (lstF c.C) c.P c.n names fb wb cb na fd wd cd nc W (k1.ext (xbw hW)) (k2.ext (xbw hW)) (k3.ext (xbw hW)) hn (fun p hp => fc p (.inl hp)) (fun p hp => fc p (.inr hp)) (fun p hp => by have := f3 p hp; have := hsl.out; omega) (fun p hp => by have := f4 p hp; have := hsl.out; omega) (by have := hsl.out; omega) (by have := hsl.out; omega)
   (Nat.le_trans (Nat.mul_le_mul_right _ (show (lstF c.F).length + 1 + (lstF c.C).length <= 4001 by have := hsl.out; omega)) (by decide)) (HE.out W (bth hb1 hW)).1 (by omega) HNZ.out (HE.out W (bth hb1 hW)).2.2.2.2
  have CP := fun W (hW : Below w1.heap.size w1 W) => crtP_any (lstF c.F) (lstF c.C) c.P c.n fb wb cb fd wd cd W (k1.ext (xbw hW)) (k2.ext (xbw hW)) (k3.ext (xbw hW)) hn (fun p hp t ht => by have := (fc p (.inl hp)).2 t ht; omega) (fun p hp t ht => by have := (fc p (.inr hp)).2 t ht; omega)
  simp only [f1, f2, lF, lC] at CT CP
  replace CT := Hd CT; replace CP := Hd CP
  have hss : (s.toList == s.toList) = true := by simp
  clear hform hbad hfine hok hsx f1 f2 f3 f4 f5 f6 fc lF lC hn k1 k2 k3
  go_wp2_with fail
  refine calls_gen (fun W => Blk W w1.heap.size 40 #[.slice fb c.F.length fd, .slice wb c.P.length wd, .int .i64 c.n, .slice cb c.C.length cd] /\ Below w1.heap.size w1 W) ⟨by ((with_reducible repeat first|assumption|(apply bF;focus omega)|apply bS|(apply bN;focus (simp;done))|apply bA|apply bD);all_goals rfl), by go_grown⟩ ?_
  rintro w2 ⟨h2', hw2⟩
  refine (CT.out w2 hw2).mono ?_
  rintro e w3 ⟨rfl, hb3⟩
  have hw3 := bth hw2 hb3
  have h3' := h2'.below' hb3
  have x0 := h3'.cell 0; have x1 := h3'.cell 1; have x2 := h3'.cell 2; have x3 := h3'.cell 3
  have hl := h3'.lt
  clear CT h2' h3' hw2 hb3
  go_wp2_with fail
  refine (CP.out w3 hw3).mono ?_
  rintro e w4 ⟨rfl, hb4⟩
  clear CP x0 x1 x2 x3 hl
  go_wp2
  go_ret
  exact ⟨rfl, bth hb1 (bth hw3 hb4)⟩
 ·
  obtain ⟨rfl, hk⟩ := hbad c k er rfl he
  have hne : (er != 0) = true := by simpa using he
  have dk : decide (0 < (k : Int)) = true := by rw [decide_eq_true_iff]; omega
  have dk2 : decide (0 < k) = true := decide_eq_true hk
  have eF : noQ.F.length = 0 := rfl
  have eC : noQ.C.length = 0 := rfl
  have eP : noQ.P.length = 0 := rfl
  have eN : noQ.n = 0 := rfl
  simp only [eF, eC, eP, eN]
  replace he := Hd he
  clear hform hbad hfine k1 k2 k3 hk eF eC eP eN
  go_wp2
  go_ret
  exact ⟨rfl, hb1.alloc hb1.size _⟩
end Go.Proofs.YtkjnkpkagcboeaaGreatDoor
namespace Go.Proofs.YtkjnkpkagcboeaaGreatDoor
open Go.RowKit Go.WideShapes Go.ChangeAt
theorem certificateForm_law {s : ByteArray} {u : Value} {w : World} {m : Nat} (h' : InS30 w u m) (hm : m <= 1048576) (hM : MaxL w) (he : ErrW w) (hy : ErrS w) (ht : TabW w) :
  Calls Tryz.prog 9 #[.string s, u] w fun r w' => r = .returned (.bool true) /\ Below w.heap.size w w' := by
 obtain ⟨l, a, c, rfl, h5, h6⟩ := h'
 exact certificateForm_str s l a c w (envC_of h5 hM he hy ht) (sum_mem (by omega))
end Go.Proofs.YtkjnkpkagcboeaaGreatDoor
namespace Go.Proofs.YtkjnkpkagcboeaaGreatDoor
open Go.ChangeShapes Go.WideShapes Go.ChangeAt Go.RowKit
theorem trodAll_below {H : Type} {enc : TypeId × Value -> H} {P : Program} (hl : laidOutB P = true) {W W' : World} (hB : Below W.heap.size W W') :
  ∀ (ts : List TypeId) (vs : List Value) (ds : List (DataW H)) (p : List MemPlace), (ts.all fun t => P.readableRec t && decide (t < P.types.size)) = true ->
   (∀ x ∈ p, x.block < W.heap.size) -> DataW.TrodAll enc P W 0 (fun _ => true) true ts vs ds p -> DataW.TrodAll enc P W' 0 (fun b => decide (b < W.heap.size)) true ts vs ds p := by
 intro ts
 induction ts with
 | nil => intro vs ds p _ _ h; cases vs <;> cases ds <;> first | exact h | exact h.elim
 | cons t ts ih =>
  intro vs ds p ha hp h
  cases vs with
  | nil => exact h.elim
  | cons v vs =>
   cases ds with
   | nil => exact h.elim
   | cons d ds =>
    obtain ⟨p1, q1, h1, h2, rfl⟩ := h
    simp only [List.all_cons, Bool.and_eq_true, decide_eq_true_eq] at ha
    exact ⟨p1, q1, Below.trod hl ha.1.1 ha.1.2 h1 hB (fun x hx => hp x (by simp [hx])), ih vs ds q1 ha.2 (fun x hx => hp x (by simp [hx])) h2, rfl⟩
theorem law_post {H : Type} {enc : TypeId × Value -> H} {P : Program} {f : Func} {s : ChangeSpec} {W W' : World} {args : Array Value} {ds gs : List (DataW H)} {before : List MemPlace} {tb : TypeId}
  (hl : laidOutB P = true) (hts : (f.params.toList.all fun t => P.readableRec t && decide (t < P.types.size)) = true) (hr : f.resultTypes = #[tb]) (hb : P.underlying tb = some .bool) (hv : s.vars = [])
  (hW : DataW.Whole enc P f.params.toList s.vars false W args.toList ds gs before) (hfn : s.fn H (ds ++ gs) = { results := [.lit (.bool true)], args := ds, vars := [] })
  (hB : Below W.heap.size W W') : s.post enc P f false true false false W args (.bool true) W' := by
 have hlt := hW.lt
 have hW0 := hW
 obtain ⟨p, q, hA, hV, rfl, _, _⟩ := hW
 rw [hv] at hV
 obtain ⟨rfl, rfl⟩ := trodVars_none hV
 refine ⟨ds, _, _, [], p, [], hW0, ?_, ?_, ?_, hB.frame _, fun h => by cases h⟩
 ·
  rw [hfn, hr]
  exact trodAll_mk1 (shut_bool hb true)
 ·
  rw [hfn]
  exact trodAll_below hl hB _ _ _ _ hts (fun x hx => by simpa using hlt x (by simp [hx])) hA
 ·
  rw [hfn, hv]
  rfl
end Go.Proofs.YtkjnkpkagcboeaaGreatDoor
namespace Go.Proofs.YtkjnkpkagcboeaaGreatDoor.certificateFormUpto
open Go.ChangeShapes Go.WideShapes Go.ChangeAt Go.RowKit
set_option linter.unusedVariables false
theorem own : ownKnob Tryz.prog.godebug = none := by kernel_rfl
theorem laidOut : laidOutB Tryz.prog = true := by kernel_rfl
theorem readable : (Tryz.f9.params.toList.all fun t => Tryz.prog.readableRec t && decide (t < Tryz.prog.types.size)) = true := by kernel_rfl
theorem table {W : World} (h : laidMetH Tryz.prog Rows.certificateFormUptoRow.laid W) : TabW W := by
 obtain ⟨ps, ⟨_, _, _, _, _, _, _, _, _, _, h1, _⟩, _⟩ := (show laidMet Tryz.prog Rows.certificateFormUptoRow.laid W from h)
 obtain ⟨_, _, _, _, _, _, _, _, _, _, h2, _⟩ := h1
 obtain ⟨g', t', cs, fuel, p, q, hg', ht', hvar, hd, _, _⟩ := h2
 obtain rfl := Option.some.inj ((show Tryz.prog.globalNamed "internal/strconv.uint64pow10" = some 1 by kernel_rfl).symm.trans hg')
 obtain rfl := Option.some.inj ((show (Tryz.prog.globals[1]?).map (·.type) = some 213 by kernel_rfl).symm.trans ht')
 unfold TabW Lib.TabIs
 rw [hvar, <- Lib.cells_of_tab (zs := Lib.pow10Tab) (k := .u64) Tryz.underlying213 Tryz.underlying112 (by kernel_rfl) (by kernel_rfl) hd]
theorem errw {W : World} (h : laidMetH Tryz.prog Rows.certificateFormUptoRow.laid W) : ErrW W := by
 obtain ⟨ps, ⟨_, _, _, _, _, _, _, _, _, _, h1, _⟩, _⟩ := (show laidMet Tryz.prog Rows.certificateFormUptoRow.laid W from h)
 obtain ⟨_, _, _, _, _, _, _, _, _, _, h2, _⟩ := h1
 obtain ⟨_, _, _, _, _, _, _, _, _, _, h3, _⟩ := h2
 obtain ⟨_, _, _, _, _, _, _, _, _, _, h4, _⟩ := h3
 obtain ⟨g', t', cs, fuel, p, q, hg', ht', hvar, hd, _, _⟩ := h4
 obtain rfl := Option.some.inj ((show Tryz.prog.globalNamed "strconv.ErrRange" = some 5 by kernel_rfl).symm.trans hg')
 obtain rfl := Option.some.inj ((show (Tryz.prog.globals[5]?).map (·.type) = some 65 by kernel_rfl).symm.trans ht')
 obtain ⟨_, u, v, hcs, _, _⟩ := iface_of_trod (name := "*errors.errorString") Tryz.underlying65 hd
 have h0 := World.var?_cell Tryz.lays172.m16 hvar 0
 have h1 : cs[0]? = some (.iface u v) := by rw [<- Array.getElem?_toList, hcs]; rfl
 exact ⟨u, v, h0.trans h1⟩
theorem errs {W : World} (h : laidMetH Tryz.prog Rows.certificateFormUptoRow.laid W) : ErrS W := by
 obtain ⟨ps, ⟨_, _, _, _, _, _, _, _, _, _, h1, _⟩, _⟩ := (show laidMet Tryz.prog Rows.certificateFormUptoRow.laid W from h)
 obtain ⟨_, _, _, _, _, _, _, _, _, _, h2, _⟩ := h1
 obtain ⟨_, _, _, _, _, _, _, _, _, _, h3, _⟩ := h2
 obtain ⟨_, _, _, _, _, _, _, _, _, _, h4, _⟩ := h3
 obtain ⟨_, _, _, _, _, _, _, _, _, _, h5, _⟩ := h4
 obtain ⟨g', t', cs, fuel, p, q, hg', ht', hvar, hd, _, _⟩ := h5
 obtain rfl := Option.some.inj ((show Tryz.prog.globalNamed "strconv.ErrSyntax" = some 4 by kernel_rfl).symm.trans hg')
 obtain rfl := Option.some.inj ((show (Tryz.prog.globals[4]?).map (·.type) = some 65 by kernel_rfl).symm.trans ht')
 obtain ⟨_, u, v, hcs, _, _⟩ := iface_of_trod (name := "*errors.errorString") Tryz.underlying65 hd
 have h0 := World.var?_cell Tryz.lays172.m15 hvar 0
 have h1 : cs[0]? = some (.iface u v) := by rw [<- Array.getElem?_toList, hcs]; rfl
 exact ⟨u, v, h0.trans h1⟩
theorem contract (H : Type) (enc : TypeId × Value -> H) (W : World) (base : Nat) (args : Array Value) (ds gs : List (DataW H)) (before : List MemPlace)
  (hval : ∀ (j : Nat) t v, Tryz.f9.params[j]? = some t -> args[j]? = some v -> Value.okWide Tryz.prog W .any base t v)
  (hW : DataW.Whole enc Tryz.prog Tryz.f9.params.toList Rows.certificateFormSpec.vars false W args.toList ds gs before) (hk : Rows.uptoSmall H (ds ++ gs) = true) (hL : laidMetH Tryz.prog Rows.certificateFormUptoRow.laid W) (hsh : W.ShapedOpen Tryz.prog) :
  Calls Tryz.prog 9 args W fun e W' => ∃ v, e = .returned v /\ Rows.certificateFormSpec.post enc Tryz.prog Tryz.f9 false true false false W args v W' := by
 have hW' := hW
 obtain ⟨p, q, hA0, hV, rfl, hfz, hnd⟩ := hW
 have hA : DataW.TrodAll enc Tryz.prog W 0 (fun _ => true) true Tryz.f9.params.toList args.toList ds p := hA0
 rw [Tryz.params9] at hA hval
 obtain ⟨v0, vs0, d0, ds0, p0, q0, hargs, rfl, rfl, h0, r0⟩ := trodAll_cons hA
 obtain ⟨v1, vs1, d1, ds1, p1, q1, rfl, rfl, rfl, h1, r1⟩ := trodAll_cons r0
 obtain ⟨rfl, rfl, rfl⟩ := trodAll_nil r1
 obtain rfl : args = #[v0, v1] := by cases args; simp_all
 obtain ⟨rfl, rfl⟩ := trodVars_none hV
 clear hA0 hA r0 r1
 have hbulk := of_decide_eq_true hk
 simp only [List.cons_append, List.nil_append, Rows.uptoBulkAll] at hbulk
 obtain ⟨a0, rfl, rfl, rfl, wa0⟩ := Go.ChangeMaps.open_string Tryz.underlying9 (hval 0 9 v0 rfl rfl) h0
 have hx1 := open_strsa (hval 1 24 v1 rfl rfl) h1
 refine (certificateForm_law  hx1 (by omega) (MaxL.of hsh) (errw hL) (errs hL) (table hL)).mono fun e W' ⟨he, hg⟩ => ?_
 subst he
 exact ⟨_, rfl, law_post laidOut readable (by kernel_rfl) Tryz.underlying4 rfl hW' (by rfl) hg⟩
noncomputable def laidWorld (os : Os) : World := World.laidAll Tryz.prog os Rows.certificateFormUptoRow.laid
def wargs : Array Value := #[.string ⟨#[]⟩, .slice none 0 0]
theorem laid_met (os : Os) : laidMet Tryz.prog Rows.certificateFormUptoRow.laid ((laidWorld os).forCall (fun _ _ => 0) ⟨#[], wargs, []⟩).memory :=
 laidMet_laidAll wargs (by kernel_rfl) (by kernel_rfl)
theorem reads (os : Os) {H : Type} (enc : TypeId × Value -> H) : ∃ places, DataW.whole enc Tryz.prog ((laidWorld os).forCall (fun _ _ => 0) ⟨#[], wargs, []⟩).memory Tryz.f9.params.toList Rows.certificateFormSpec.vars false wargs.toList 8 = some ([.lit (.string []), .nil], [], places) :=
 ⟨[], by kernel_rfl⟩
theorem lifted (os : Os) (started : os.Started) (H : Type) (enc : TypeId × Value -> H) (F : Stop.Interp) :
  ReturnsInHanded {} Tryz.checked os 9 .any ((Rows.OpenSpec.upto Rows.certificateFormSpec).preRow enc Tryz.prog Tryz.f9 Rows.certificateFormUptoRow.domain false Rows.certificateFormUptoRow.laid) (((Rows.OpenSpec.upto Rows.certificateFormSpec).at F).post enc Tryz.prog Tryz.f9 false true false false) := by
 obtain ⟨places, hx⟩ := reads os enc
 refine returnsInHanded_of_row (C := Tryz.checked) (s := Rows.OpenSpec.upto Rows.certificateFormSpec) own started (by kernel_rfl) Tryz.func9
  (witness_row_at (enc := enc) (C := Tryz.checked) false (laidWorld os) wargs (World.laidAll_os _ _ _) (by kernel_rfl) (by kernel_rfl) (by kernel_rfl)
   (OpenSpec.preRow_of_cond 8 hx (by kernel_rfl) (fun k hk => by cases hk; kernel_rfl) (by kernel_rfl) (laid_met os))) ?_
 intro W base args ds gs before hval hW _ hcond _ hL hsh _
 exact contract H enc W base args ds gs before hval hW (hcond _ rfl) hL hsh
theorem said : Rows.CertificateFormUptoSaid :=
 OpenClaim.holds_of_cond 9 Tryz.f9 rfl rfl rfl rfl rfl rfl rfl ⟨rfl, rfl, rfl, rfl, rfl⟩ rfl rfl rfl rfl rfl (by kernel_rfl) Tryz.func9 (by kernel_rfl)
  (of_decide_eq_true (by kernel_rfl)) (by unfold Func.isWrapper; first | (rw [if_pos (by decide +kernel)]; kernel_rfl) | (rw [if_neg (by decide +kernel)]; exact ⟨rfl, rfl⟩))
  (fun os started H enc _ F => by rw [OpenClaim.pre_eq_preRow]; exact lifted os started H enc F)
theorem plain (f : FuncId) (fn : Func) (hf : Tryz.pinned.checked.prog.funcNamed "geoprover/geoproverlaw30.CertificateForm" = some f) (hfn : Tryz.pinned.checked.prog.funcs[f]? = some fn) :
  true = Tryz.pinned.checked.prog.looks [] /\ ∀ (j : Nat) t, fn.params[j]? = some t -> Tryz.pinned.checked.prog.wantsStandIn t = false := by
 obtain rfl : f = 9 := Option.some.inj ((show Tryz.prog.funcNamed "geoprover/geoproverlaw30.CertificateForm" = some 9 by kernel_rfl).symm.trans hf) |>.symm
 obtain rfl : fn = Tryz.f9 := (Option.some.inj (Tryz.func9.symm.trans hfn)).symm
 refine ⟨by kernel_rfl, fun j t ht => ?_⟩
 rw [Tryz.params9] at ht
 obtain rfl | rfl : t = 9 \/ t = 24 := by simpa using Array.mem_of_getElem? ht
 · exact (show Tryz.prog.wantsStandIn 9 = false by kernel_rfl)
 · exact (show Tryz.prog.wantsStandIn 24 = false by kernel_rfl)
theorem card : Rows.CertificateFormUptoCardSaid :=
 Claim7.holds_tied_plain_at .later [] _ _ _ _ said (fun _ h => by cases h) (by kernel_rfl) (fun _ h => by cases h) certificateFormUpto_row_tie rfl ⟨rfl, rfl⟩ (by kernel_rfl) rfl plain (by kernel_rfl)
#print axioms said
#print axioms card
end Go.Proofs.YtkjnkpkagcboeaaGreatDoor.certificateFormUpto
