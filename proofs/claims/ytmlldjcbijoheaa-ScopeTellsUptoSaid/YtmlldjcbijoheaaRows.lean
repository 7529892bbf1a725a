/-
  NARROWER THAN 'FOR EVERY INPUT', by the rows' own cells (each row's printed sentence says how): AstMeasures: loops · AstEqual: loops · ScopeRenames: loops · ScopeTells: loops.
  DERIVED. THE GIVEN ROWS OF THIS SEAT. 8 by the template 'for every input the law returns true; each argument reads behind the call as it read before'; 0 by the template 'total and deterministic' (their statements: YtmlldjcbijoheaaTotals.lean).
  GIVEN WITH THE SEED: the statements are not yours to turn. If you find one false, say at which input.
  Laid BY PROGRAM, IN A SANDBOX (cutbox-rows.mjs): the forced cells as the released guide's own fill.sh prints them over the translation e117ab73793aa3a5… (all of the seat's roots in one cut). By AI agents, Wed Nov 11 2026. No macro, syntax, notation, axiom, sorry.
-/
import Derived.Test.YtmlldjcbijoheaaChecked
import GoSem.Claim
import GoSem.ClaimJoined
import GoSem.ClaimMapViews
import Derived.JoinedTies
import Derived.KernelRfl
namespace Go.Proofs.Ytmlldjcbijoheaa
/- THE CELL 'sum', in the pinned program and in every row, IS THE sha256 OF THE DUMP (.gsa) THAT YtmlldjcbijoheaaProg.lean LOADS. Nothing in Lean hashes anything: it is a label: what it is worth is what the hold of that sum in a sandbox is worth. -/
noncomputable def Try.pinned : Pinned := { name := "ytmlldjcbijoheaa", sum := "e117ab73793aa3a56069aa2a42c5a346ab84724d8fc2ecb2d2d36f80766f3edd", checked := Try.checked }
namespace Rows
def none {H : Type} : Left H := { results := [], args := [] }

/-- 'geoproverlaw20.LowerNeeds': WHATEVER THE INPUT: true; the input reads as it did. -/
def lowerNeedsSpec : ChangeSpec := { name := "lowerNeeds", fn := fun _ => fun
  | [d1, d2] => { results := [.lit (.bool true)], args := [d1, d2] }
  | _ => none }
def lowerNeedsRow : OpenClaim := { program := "ytmlldjcbijoheaa", sum := "e117ab73793aa3a56069aa2a42c5a346ab84724d8fc2ecb2d2d36f80766f3edd", func := "geoprover/geoproverlaw20.LowerNeeds", spec := "lowerNeeds", apart := false }
def LowerNeedsSaid : Prop := lowerNeedsRow.holds Try.pinned (OpenSpec.ofChange lowerNeedsSpec)

/-- ITS FALSE NEIGHBOUR: 'it returns false'. Refute it at one input. -/
def lowerNeedsWrong : ChangeSpec := { name := "lowerNeeds", fn := fun _ => fun
  | [d1, d2] => { results := [.lit (.bool false)], args := [d1, d2] }
  | _ => none }
def LowerNeedsWrongFalsely : Prop := lowerNeedsRow.holds Try.pinned (OpenSpec.ofChange lowerNeedsWrong)

/-- 'geoproverlaw16.AstMeasures': WHATEVER THE INPUT: true; the input reads as it did. -/
def astMeasuresSpec : ChangeSpec := { name := "astMeasures", fn := fun _ => fun
  | [d] => { results := [.lit (.bool true)], args := [d] }
  | _ => none }
def astMeasuresRow : OpenClaim := { program := "ytmlldjcbijoheaa", sum := "e117ab73793aa3a56069aa2a42c5a346ab84724d8fc2ecb2d2d36f80766f3edd", func := "geoprover/geoproverlaw16.AstMeasures", spec := "astMeasures", recurses := true, loops := true, apart := false }
def AstMeasuresSaid : Prop := astMeasuresRow.holds Try.pinned (OpenSpec.ofChange astMeasuresSpec)

/-- ITS FALSE NEIGHBOUR: 'it returns false'. Refute it at one input. -/
def astMeasuresWrong : ChangeSpec := { name := "astMeasures", fn := fun _ => fun
  | [d] => { results := [.lit (.bool false)], args := [d] }
  | _ => none }
def AstMeasuresWrongFalsely : Prop := astMeasuresRow.holds Try.pinned (OpenSpec.ofChange astMeasuresWrong)

/-- 'geoproverlaw16.AstEqual': WHATEVER THE INPUT: true; the input reads as it did. -/
def astEqualSpec : ChangeSpec := { name := "astEqual", fn := fun _ => fun
  | [d1, d2, d3] => { results := [.lit (.bool true)], args := [d1, d2, d3] }
  | _ => none }
def astEqualRow : OpenClaim := { program := "ytmlldjcbijoheaa", sum := "e117ab73793aa3a56069aa2a42c5a346ab84724d8fc2ecb2d2d36f80766f3edd", func := "geoprover/geoproverlaw16.AstEqual", spec := "astEqual", recurses := true, loops := true, apart := false }
def AstEqualSaid : Prop := astEqualRow.holds Try.pinned (OpenSpec.ofChange astEqualSpec)

/-- ITS FALSE NEIGHBOUR: 'it returns false'. Refute it at one input. -/
def astEqualWrong : ChangeSpec := { name := "astEqual", fn := fun _ => fun
  | [d1, d2, d3] => { results := [.lit (.bool false)], args := [d1, d2, d3] }
  | _ => none }
def AstEqualWrongFalsely : Prop := astEqualRow.holds Try.pinned (OpenSpec.ofChange astEqualWrong)

/-- 'geoproverlaw20.LowerPrunes': WHATEVER THE INPUT: true; the input reads as it did. -/
def lowerPrunesSpec : ChangeSpec := { name := "lowerPrunes", fn := fun _ => fun
  | [d1, d2] => { results := [.lit (.bool true)], args := [d1, d2] }
  | _ => none }
def lowerPrunesRow : OpenClaim := { program := "ytmlldjcbijoheaa", sum := "e117ab73793aa3a56069aa2a42c5a346ab84724d8fc2ecb2d2d36f80766f3edd", func := "geoprover/geoproverlaw20.LowerPrunes", spec := "lowerPrunes", unfollowed := true, recurses := true, apart := false }
def LowerPrunesSaid : Prop := lowerPrunesRow.holds Try.pinned (OpenSpec.ofChange lowerPrunesSpec)

/-- ITS FALSE NEIGHBOUR: 'it returns false'. Refute it at one input. -/
def lowerPrunesWrong : ChangeSpec := { name := "lowerPrunes", fn := fun _ => fun
  | [d1, d2] => { results := [.lit (.bool false)], args := [d1, d2] }
  | _ => none }
def LowerPrunesWrongFalsely : Prop := lowerPrunesRow.holds Try.pinned (OpenSpec.ofChange lowerPrunesWrong)

/-- 'geoproverlaw16.AstWords': WHATEVER THE INPUT: true; the input reads as it did. -/
def astWordsSpec : ChangeSpec := { name := "astWords", fn := fun _ => fun
  | [d1, d2] => { results := [.lit (.bool true)], args := [d1, d2] }
  | _ => none }
def astWordsRow : OpenClaim := { program := "ytmlldjcbijoheaa", sum := "e117ab73793aa3a56069aa2a42c5a346ab84724d8fc2ecb2d2d36f80766f3edd", func := "geoprover/geoproverlaw16.AstWords", spec := "astWords", apart := false }
def AstWordsSaid : Prop := astWordsRow.holds Try.pinned (OpenSpec.ofChange astWordsSpec)

/-- ITS FALSE NEIGHBOUR: 'it returns false'. Refute it at one input. -/
def astWordsWrong : ChangeSpec := { name := "astWords", fn := fun _ => fun
  | [d1, d2] => { results := [.lit (.bool false)], args := [d1, d2] }
  | _ => none }
def AstWordsWrongFalsely : Prop := astWordsRow.holds Try.pinned (OpenSpec.ofChange astWordsWrong)

/-- 'geoproverlaw19.ScopeRenames': WHATEVER THE INPUT: true; the input reads as it did. -/
def scopeRenamesSpec : ChangeSpec := { name := "scopeRenames", fn := fun _ => fun
  | [d1, d2, d3] => { results := [.lit (.bool true)], args := [d1, d2, d3] }
  | _ => none }
def scopeRenamesRow : OpenClaim := { program := "ytmlldjcbijoheaa", sum := "e117ab73793aa3a56069aa2a42c5a346ab84724d8fc2ecb2d2d36f80766f3edd", func := "geoprover/geoproverlaw19.ScopeRenames", spec := "scopeRenames", recurses := true, loops := true, apart := false }
def ScopeRenamesSaid : Prop := scopeRenamesRow.holds Try.pinned (OpenSpec.ofChange scopeRenamesSpec)

/-- ITS FALSE NEIGHBOUR: 'it returns false'. Refute it at one input. -/
def scopeRenamesWrong : ChangeSpec := { name := "scopeRenames", fn := fun _ => fun
  | [d1, d2, d3] => { results := [.lit (.bool false)], args := [d1, d2, d3] }
  | _ => none }
def ScopeRenamesWrongFalsely : Prop := scopeRenamesRow.holds Try.pinned (OpenSpec.ofChange scopeRenamesWrong)

/-- 'geoproverlaw19.ScopeTells': WHATEVER THE INPUT: true; the input reads as it did. -/
def scopeTellsSpec : ChangeSpec := { name := "scopeTells", fn := fun _ => fun
  | [d1, d2, d3] => { results := [.lit (.bool true)], args := [d1, d2, d3] }
  | _ => none }
def scopeTellsRow : OpenClaim := { program := "ytmlldjcbijoheaa", sum := "e117ab73793aa3a56069aa2a42c5a346ab84724d8fc2ecb2d2d36f80766f3edd", func := "geoprover/geoproverlaw19.ScopeTells", spec := "scopeTells", unfollowed := true, recurses := true, loops := true, apart := false }
def ScopeTellsSaid : Prop := scopeTellsRow.holds Try.pinned (OpenSpec.ofChange scopeTellsSpec)

/-- ITS FALSE NEIGHBOUR: 'it returns false'. Refute it at one input. -/
def scopeTellsWrong : ChangeSpec := { name := "scopeTells", fn := fun _ => fun
  | [d1, d2, d3] => { results := [.lit (.bool false)], args := [d1, d2, d3] }
  | _ => none }
def ScopeTellsWrongFalsely : Prop := scopeTellsRow.holds Try.pinned (OpenSpec.ofChange scopeTellsWrong)

/-- 'geoproverlaw16.AstTables': WHATEVER THE INPUT: true; the input reads as it did. -/
def astTablesSpec : ChangeSpec := { name := "astTables", fn := fun _ => fun
  | [d1, d2] => { results := [.lit (.bool true)], args := [d1, d2] }
  | _ => none }
def astTablesRow : OpenClaim := { program := "ytmlldjcbijoheaa", sum := "e117ab73793aa3a56069aa2a42c5a346ab84724d8fc2ecb2d2d36f80766f3edd", func := "geoprover/geoproverlaw16.AstTables", spec := "astTables", inPlace := ["internal/bytealg.IndexByteString", "internal/bytealg.IndexString"], named := ["internal/bytealg.MaxLen"], apart := false }
def AstTablesSaid : Prop := astTablesRow.holds Try.pinned (OpenSpec.ofChange astTablesSpec)

/-- ITS FALSE NEIGHBOUR: 'it returns false'. Refute it at one input. -/
def astTablesWrong : ChangeSpec := { name := "astTables", fn := fun _ => fun
  | [d1, d2] => { results := [.lit (.bool false)], args := [d1, d2] }
  | _ => none }
def AstTablesWrongFalsely : Prop := astTablesRow.holds Try.pinned (OpenSpec.ofChange astTablesWrong)

/- THE SECOND FORM. 'bulk': how many values and letters a reading holds, each counted each time it is reached (what is shared counts as often as it is met; a slice's spare places count too). A statement '..UptoSaid' is the law's where the arguments, and the package variables that the reading takes, are together of bulk at most 1048576: NARROWER than '..Said'. Prove '..Said' where nothing that the law and all that it calls make is longer than what came in: it says more and counts as full. Else prove '..UptoSaid'. A law counts once. -/
mutual
def uptoBulk {H : Type} : DataW H → Nat
  | .lit (.string bytes) => bytes.length + 1
  | .lit _ => 1
  | .nil => 1
  | .ptr d => uptoBulk d + 1
  | .slice elems spare => uptoBulkAll elems + uptoBulkAll spare + 1
  | .agg parts => uptoBulkAll parts + 1
  | .iface _ d => uptoBulk d + 1
  | .map entries => uptoBulkEntries entries + 1
  | .held _ => 1
def uptoBulkAll {H : Type} : List (DataW H) → Nat
  | [] => 0
  | d :: r => uptoBulk d + uptoBulkAll r
def uptoBulkEntries {H : Type} : List (Lit × DataW H) → Nat
  | [] => 0
  | x :: r => uptoBulkEntry x + uptoBulkEntries r
def uptoBulkEntry {H : Type} : Lit × DataW H → Nat
  | (.string bytes, d) => bytes.length + uptoBulk d + 1
  | (_, d) => uptoBulk d + 1
 end
def uptoSmall : (H : Type) → List (DataW H) → Bool := fun _ ds => decide (uptoBulkAll ds ≤ 1048576)
def OpenSpec.upto (s : _root_.Go.ChangeSpec) : _root_.Go.OpenSpec := { _root_.Go.OpenSpec.ofChange s with cond := some uptoSmall }

/-- 'geoproverlaw20.LowerNeeds', WHERE WHAT IT READS IS OF BULK AT MOST 1048576: true; the input reads as it did. -/
def lowerNeedsUptoRow : OpenClaim := { program := "ytmlldjcbijoheaa", sum := "e117ab73793aa3a56069aa2a42c5a346ab84724d8fc2ecb2d2d36f80766f3edd", func := "geoprover/geoproverlaw20.LowerNeeds", spec := "lowerNeeds", apart := false, narrowed := true }
def LowerNeedsUptoSaid : Prop := lowerNeedsUptoRow.holds Try.pinned (OpenSpec.upto lowerNeedsSpec)

/-- 'geoproverlaw16.AstMeasures', WHERE WHAT IT READS IS OF BULK AT MOST 1048576: true; the input reads as it did. -/
def astMeasuresUptoRow : OpenClaim := { program := "ytmlldjcbijoheaa", sum := "e117ab73793aa3a56069aa2a42c5a346ab84724d8fc2ecb2d2d36f80766f3edd", func := "geoprover/geoproverlaw16.AstMeasures", spec := "astMeasures", recurses := true, loops := true, apart := false, narrowed := true }
def AstMeasuresUptoSaid : Prop := astMeasuresUptoRow.holds Try.pinned (OpenSpec.upto astMeasuresSpec)

/-- 'geoproverlaw16.AstEqual', WHERE WHAT IT READS IS OF BULK AT MOST 1048576: true; the input reads as it did. -/
def astEqualUptoRow : OpenClaim := { program := "ytmlldjcbijoheaa", sum := "e117ab73793aa3a56069aa2a42c5a346ab84724d8fc2ecb2d2d36f80766f3edd", func := "geoprover/geoproverlaw16.AstEqual", spec := "astEqual", recurses := true, loops := true, apart := false, narrowed := true }
def AstEqualUptoSaid : Prop := astEqualUptoRow.holds Try.pinned (OpenSpec.upto astEqualSpec)

/-- 'geoproverlaw20.LowerPrunes', WHERE WHAT IT READS IS OF BULK AT MOST 1048576: true; the input reads as it did. -/
def lowerPrunesUptoRow : OpenClaim := { program := "ytmlldjcbijoheaa", sum := "e117ab73793aa3a56069aa2a42c5a346ab84724d8fc2ecb2d2d36f80766f3edd", func := "geoprover/geoproverlaw20.LowerPrunes", spec := "lowerPrunes", unfollowed := true, recurses := true, apart := false, narrowed := true }
def LowerPrunesUptoSaid : Prop := lowerPrunesUptoRow.holds Try.pinned (OpenSpec.upto lowerPrunesSpec)

/-- 'geoproverlaw16.AstWords', WHERE WHAT IT READS IS OF BULK AT MOST 1048576: true; the input reads as it did. -/
def astWordsUptoRow : OpenClaim := { program := "ytmlldjcbijoheaa", sum := "e117ab73793aa3a56069aa2a42c5a346ab84724d8fc2ecb2d2d36f80766f3edd", func := "geoprover/geoproverlaw16.AstWords", spec := "astWords", apart := false, narrowed := true }
def AstWordsUptoSaid : Prop := astWordsUptoRow.holds Try.pinned (OpenSpec.upto astWordsSpec)

/-- 'geoproverlaw19.ScopeRenames', WHERE WHAT IT READS IS OF BULK AT MOST 1048576: true; the input reads as it did. -/
def scopeRenamesUptoRow : OpenClaim := { program := "ytmlldjcbijoheaa", sum := "e117ab73793aa3a56069aa2a42c5a346ab84724d8fc2ecb2d2d36f80766f3edd", func := "geoprover/geoproverlaw19.ScopeRenames", spec := "scopeRenames", recurses := true, loops := true, apart := false, narrowed := true }
def ScopeRenamesUptoSaid : Prop := scopeRenamesUptoRow.holds Try.pinned (OpenSpec.upto scopeRenamesSpec)

/-- 'geoproverlaw19.ScopeTells', WHERE WHAT IT READS IS OF BULK AT MOST 1048576: true; the input reads as it did. -/
def scopeTellsUptoRow : OpenClaim := { program := "ytmlldjcbijoheaa", sum := "e117ab73793aa3a56069aa2a42c5a346ab84724d8fc2ecb2d2d36f80766f3edd", func := "geoprover/geoproverlaw19.ScopeTells", spec := "scopeTells", unfollowed := true, recurses := true, loops := true, apart := false, narrowed := true }
def ScopeTellsUptoSaid : Prop := scopeTellsUptoRow.holds Try.pinned (OpenSpec.upto scopeTellsSpec)

/-- 'geoproverlaw16.AstTables', WHERE WHAT IT READS IS OF BULK AT MOST 1048576: true; the input reads as it did. -/
def astTablesUptoRow : OpenClaim := { program := "ytmlldjcbijoheaa", sum := "e117ab73793aa3a56069aa2a42c5a346ab84724d8fc2ecb2d2d36f80766f3edd", func := "geoprover/geoproverlaw16.AstTables", spec := "astTables", inPlace := ["internal/bytealg.IndexByteString", "internal/bytealg.IndexString"], named := ["internal/bytealg.MaxLen"], apart := false, narrowed := true }
def AstTablesUptoSaid : Prop := astTablesUptoRow.holds Try.pinned (OpenSpec.upto astTablesSpec)

end Rows
end Go.Proofs.Ytmlldjcbijoheaa
