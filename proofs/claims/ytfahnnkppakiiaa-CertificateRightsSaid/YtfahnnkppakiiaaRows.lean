/-
  No cell of these rows narrows 'for every input' (looked for: loops, veiled, ifaces, maps, wideKeys, modest, calm, conditions, laid).
  DERIVED. THE GIVEN ROWS OF THIS SEAT. 3 by the template 'for every input the law returns true; each argument reads behind the call as it read before'; 0 by the template 'total and deterministic' (their statements: YtfahnnkppakiiaaTotals.lean).
  GIVEN WITH THE SEED: the statements are not yours to turn. If you find one false, say at which input.
  Laid BY PROGRAM, IN A SANDBOX (cutbox-rows.mjs): the forced cells as the released guide's own fill.sh prints them over the translation 351baa0690edd31c… (all of the seat's roots in one cut). By AI agents, Wed Nov 11 2026. No macro, syntax, notation, axiom, sorry.
-/
import Derived.Test.YtfahnnkppakiiaaChecked
import GoSem.Claim
import GoSem.ClaimJoined
import GoSem.ClaimMapViews
import Derived.JoinedTies
import Derived.KernelRfl
namespace Go.Proofs.Ytfahnnkppakiiaa
/- THE CELL 'sum', in the pinned program and in every row, IS THE sha256 OF THE DUMP (.gsa) THAT YtfahnnkppakiiaaProg.lean LOADS. Nothing in Lean hashes anything: it is a label: what it is worth is what the hold of that sum in a sandbox is worth. -/
noncomputable def Try.pinned : Pinned := { name := "ytfahnnkppakiiaa", sum := "351baa0690edd31c8c5266e381b3336b7b033a226843ff82d9441aaa578b00d7", checked := Try.checked }
namespace Rows
def none {H : Type} : Left H := { results := [], args := [] }

/-- 'geoproverlaw30.CertificateRights': WHATEVER THE INPUT: true; the input reads as it did. -/
def certificateRightsSpec : ChangeSpec := { name := "certificateRights", fn := fun _ => fun
  | [d] => { results := [.lit (.bool true)], args := [d] }
  | _ => none }
def certificateRightsRow : OpenClaim := { program := "ytfahnnkppakiiaa", sum := "351baa0690edd31c8c5266e381b3336b7b033a226843ff82d9441aaa578b00d7", func := "geoprover/geoproverlaw30.CertificateRights", spec := "certificateRights", unfollowed := true, recurses := true, apart := false }
def CertificateRightsSaid : Prop := certificateRightsRow.holds Try.pinned (OpenSpec.ofChange certificateRightsSpec)

/-- ITS FALSE NEIGHBOUR: 'it returns false'. Refute it at one input. -/
def certificateRightsWrong : ChangeSpec := { name := "certificateRights", fn := fun _ => fun
  | [d] => { results := [.lit (.bool false)], args := [d] }
  | _ => none }
def CertificateRightsWrongFalsely : Prop := certificateRightsRow.holds Try.pinned (OpenSpec.ofChange certificateRightsWrong)

/-- 'geoproverlaw27.RefuteValues': WHATEVER THE INPUT: true; the input reads as it did. -/
def refuteValuesSpec : ChangeSpec := { name := "refuteValues", fn := fun _ => fun
  | [d] => { results := [.lit (.bool true)], args := [d] }
  | _ => none }
def refuteValuesRow : OpenClaim := { program := "ytfahnnkppakiiaa", sum := "351baa0690edd31c8c5266e381b3336b7b033a226843ff82d9441aaa578b00d7", func := "geoprover/geoproverlaw27.RefuteValues", spec := "refuteValues", unfollowed := true, recurses := true, apart := false }
def RefuteValuesSaid : Prop := refuteValuesRow.holds Try.pinned (OpenSpec.ofChange refuteValuesSpec)

/-- ITS FALSE NEIGHBOUR: 'it returns false'. Refute it at one input. -/
def refuteValuesWrong : ChangeSpec := { name := "refuteValues", fn := fun _ => fun
  | [d] => { results := [.lit (.bool false)], args := [d] }
  | _ => none }
def RefuteValuesWrongFalsely : Prop := refuteValuesRow.holds Try.pinned (OpenSpec.ofChange refuteValuesWrong)

/-- 'geoproverlaw20.LowerRights': WHATEVER THE INPUT: true; the input reads as it did. -/
def lowerRightsSpec : ChangeSpec := { name := "lowerRights", fn := fun _ => fun
  | [d1, d2] => { results := [.lit (.bool true)], args := [d1, d2] }
  | _ => none }
def lowerRightsRow : OpenClaim := { program := "ytfahnnkppakiiaa", sum := "351baa0690edd31c8c5266e381b3336b7b033a226843ff82d9441aaa578b00d7", func := "geoprover/geoproverlaw20.LowerRights", spec := "lowerRights", unfollowed := true, recurses := true, apart := false }
def LowerRightsSaid : Prop := lowerRightsRow.holds Try.pinned (OpenSpec.ofChange lowerRightsSpec)

/-- ITS FALSE NEIGHBOUR: 'it returns false'. Refute it at one input. -/
def lowerRightsWrong : ChangeSpec := { name := "lowerRights", fn := fun _ => fun
  | [d1, d2] => { results := [.lit (.bool false)], args := [d1, d2] }
  | _ => none }
def LowerRightsWrongFalsely : Prop := lowerRightsRow.holds Try.pinned (OpenSpec.ofChange lowerRightsWrong)

/- THE SECOND FORM. 'bulk': how many values and letters a reading holds, each counted each time it is reached (what is shared counts as often as it is met; a slice's spare places count too). A statement '..UptoSaid' is the law's where the arguments, and the package variables that the reading takes, are together of bulk at most 1048576: NARROWER than '..Said'. Prove '..Said' where nothing that the law and all that it calls make is longer than what came in: it says more and counts as full. Else prove '..UptoSaid'. A law counts once. -/
mutual
def uptoBulk {H : Type} : DataW H → Nat
  | .lit (.string bytes) => bytes.length + 1
  | .lit _ => 1
  | .nil => 1
  | .ptr d => uptoBulk d + 1
  | .slice elems spare => uptoBulkAll elems + uptoBulkAll spare + 1
  | .agg parts => uptoBulkAll parts + 1
  | .iface _ d => uptoBulk d + 1
  | .map entries => uptoBulkEntries entries + 1
  | .held _ => 1
def uptoBulkAll {H : Type} : List (DataW H) → Nat
  | [] => 0
  | d :: r => uptoBulk d + uptoBulkAll r
def uptoBulkEntries {H : Type} : List (Lit × DataW H) → Nat
  | [] => 0
  | x :: r => uptoBulkEntry x + uptoBulkEntries r
def uptoBulkEntry {H : Type} : Lit × DataW H → Nat
  | (.string bytes, d) => bytes.length + uptoBulk d + 1
  | (_, d) => uptoBulk d + 1
 end
def uptoSmall : (H : Type) → List (DataW H) → Bool := fun _ ds => decide (uptoBulkAll ds ≤ 1048576)
def OpenSpec.upto (s : _root_.Go.ChangeSpec) : _root_.Go.OpenSpec := { _root_.Go.OpenSpec.ofChange s with cond := some uptoSmall }

/-- 'geoproverlaw30.CertificateRights', WHERE WHAT IT READS IS OF BULK AT MOST 1048576: true; the input reads as it did. -/
def certificateRightsUptoRow : OpenClaim := { program := "ytfahnnkppakiiaa", sum := "351baa0690edd31c8c5266e381b3336b7b033a226843ff82d9441aaa578b00d7", func := "geoprover/geoproverlaw30.CertificateRights", spec := "certificateRights", unfollowed := true, recurses := true, apart := false, narrowed := true }
def CertificateRightsUptoSaid : Prop := certificateRightsUptoRow.holds Try.pinned (OpenSpec.upto certificateRightsSpec)

/-- 'geoproverlaw27.RefuteValues', WHERE WHAT IT READS IS OF BULK AT MOST 1048576: true; the input reads as it did. -/
def refuteValuesUptoRow : OpenClaim := { program := "ytfahnnkppakiiaa", sum := "351baa0690edd31c8c5266e381b3336b7b033a226843ff82d9441aaa578b00d7", func := "geoprover/geoproverlaw27.RefuteValues", spec := "refuteValues", unfollowed := true, recurses := true, apart := false, narrowed := true }
def RefuteValuesUptoSaid : Prop := refuteValuesUptoRow.holds Try.pinned (OpenSpec.upto refuteValuesSpec)

/-- 'geoproverlaw20.LowerRights', WHERE WHAT IT READS IS OF BULK AT MOST 1048576: true; the input reads as it did. -/
def lowerRightsUptoRow : OpenClaim := { program := "ytfahnnkppakiiaa", sum := "351baa0690edd31c8c5266e381b3336b7b033a226843ff82d9441aaa578b00d7", func := "geoprover/geoproverlaw20.LowerRights", spec := "lowerRights", unfollowed := true, recurses := true, apart := false, narrowed := true }
def LowerRightsUptoSaid : Prop := lowerRightsUptoRow.holds Try.pinned (OpenSpec.upto lowerRightsSpec)

end Rows
end Go.Proofs.Ytfahnnkppakiiaa
