/- The walk of AstTables. -/
import Derived.Test.YtmlldjcbijoheaaAstTabLaw
import Derived.Test.YtmlldjcbijoheaaAstK
import Derived.Test.YtmlldjcbijoheaaInts16
namespace Go.Proofs.Ytmlldjcbijoheaa
open Go.RowKit
set_option maxRecDepth 100000 in
set_option maxHeartbeats 1000000 in
theorem astTables_any (k : Int) (s : ByteArray) (w : World) :
    Calls Try.prog 10 #[.int .i64 k, .string s] w fun r w' => r = .returned (.bool true) ∧ Below w.heap.size w w' := by
  have T := table_all k
  have K := kind_all s
  have KW := kind_all (AstP.word k)
  have S1 := sort_any k
  have S2 := sort16_any k
  have P1 := fun w => params_walk k w (letters_ascii k) T.2.2.2.1
  have P2 := params16_any k
  have W1 := word_any k
  have W2 := word16_any k
  have K1 := kind_any s
  have K2 := kind16_any s
  have L1 := kind_any (AstP.word k)
  have L2 := kind16_any (AstP.word k)
  have CI := codes_int (AstP.letters k)
  rw [T.2.2.1] at CI
  rw [← T.1] at S2
  rw [← T.2.1] at W2
  rw [T.2.2.1] at P1
  rw [← K] at K2
  rw [← KW] at L2
  clear T K KW
  revert S1 S2 P1 P2 W1 W2 K1 K2 L1 L2 CI
  generalize AstP.sort k = vs
  generalize (findRow k).params = vp
  generalize AstP.kind (AstP.word k) = vl
  generalize AstP.word k = vw
  generalize AstP.kind s = vk
  intro S1 S2 P1 P2 W1 W2 K1 K2 L1 L2 CI
  have SI := fun (a a' : Option Addr) (c c' : Nat) (w : World) (h : IntsR w a c vp) (h' : IntsR w a' c' vp) => sameInts16_any vp vp a a' c c' w h h'
  simp only [decide_true] at SI
  go_enter Try.func10, Try.ntmps10
  go_wp2_with fail
  refine (S1 _).mono ?_
  rintro r w1 ⟨rfl, rfl⟩
  go_wp2_with fail
  refine (S2 _).mono ?_
  rintro r w1 ⟨rfl, hb1⟩
  go_wp2_with fail
  refine (P1 _).mono ?_
  rintro r w2 ⟨a2, c2, rfl, ho2, hb2⟩
  have b2 := below_then hb1 hb2
  clear hb1
  go_wp2_with fail
  refine (P2 _).mono ?_
  rintro r w3 ⟨a3, c3, rfl, hi3, hb3⟩
  have b3 := below_then b2 hb3
  have hi2 := (OwnI.reads1 ho2 CI).ext (Ext.below hb3)
  clear b2 hb2 ho2 hb3
  go_wp2_with fail
  refine (SI _ _ _ _ _ hi2 hi3).mono ?_
  rintro r w4 ⟨rfl, hb4⟩
  have b4 := below_then b3 hb4
  clear b3 hb4 hi2 hi3
  go_wp2_with fail
  refine (W1 _).mono ?_
  rintro r w5 ⟨rfl, rfl⟩
  go_wp2_with fail
  refine (W2 _).mono ?_
  rintro r w5 ⟨rfl, hb5⟩
  have b5 := below_then b4 hb5
  clear b4 hb5
  have hww : (vw.toList == vw.toList) = true := by rw [str_beq]; simp
  go_wp2_with fail
  refine (K1 _).mono ?_
  rintro r w6 ⟨rfl, rfl⟩
  go_wp2_with fail
  refine (K2 _).mono ?_
  rintro r w6 ⟨rfl, hb6⟩
  have b6 := below_then b5 hb6
  clear b5 hb6
  go_wp2_with fail
  refine (W2 _).mono ?_
  rintro r w7 ⟨rfl, hb7⟩
  have b7 := below_then b6 hb7
  clear b6 hb7
  go_wp2_with fail
  refine (L1 _).mono ?_
  rintro r w8 ⟨rfl, rfl⟩
  go_wp2_with fail
  refine (W2 _).mono ?_
  rintro r w8 ⟨rfl, hb8⟩
  have b8 := below_then b7 hb8
  clear b7 hb8
  go_wp2_with fail
  refine (L2 _).mono ?_
  rintro r w9 ⟨rfl, hb9⟩
  have b9 := below_then b8 hb9
  clear b8 hb9
  go_wp2_with fail
  go_ret
  exact ⟨rfl, b9⟩
theorem astTables_law (k : Int) (_wk : (Lit.int .i64 k).wf = true) (s : ByteArray) (_ws : s.size ≤ maxLen) (w : World) :
    Calls Try.prog 10 #[.int .i64 k, .string s] w fun r w' => r = .returned (.bool true) ∧ Below w.heap.size w w' := astTables_any k s w
end Go.Proofs.Ytmlldjcbijoheaa
