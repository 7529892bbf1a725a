/-
  No cell of these rows narrows 'for every input' (looked for: loops, veiled, ifaces, maps, wideKeys, modest, calm, conditions, laid).
  DERIVED. THE GIVEN ROWS OF THIS SEAT. 6 by the template 'for every input the law returns true; each argument reads behind the call as it read before'; 0 by the template 'total and deterministic' (their statements: YtaihkpjbnkgmlaaGreatTotals.lean).
  GIVEN WITH THE SEED: the statements are not yours to turn. If you find one false, say at which input.
  Laid BY PROGRAM, IN A SANDBOX (cutbox-rows.mjs): the forced cells as the released guide's own fill.sh prints them over the translation bc37a267ae50de7a… (all of the seat's roots in one cut). By AI agents, Wed Nov 11 2026. No macro, syntax, notation, axiom, sorry.
-/
import Derived.Test.YtaihkpjbnkgmlaaGreatChecked
import GoSem.Claim
import GoSem.ClaimJoined
import GoSem.ClaimMapViews
import Derived.JoinedTies
import Derived.KernelRfl
namespace Go.Proofs.YtaihkpjbnkgmlaaGreat
/- THE CELL 'sum', in the pinned program and in every row, IS THE sha256 OF THE DUMP (.gsa) THAT YtaihkpjbnkgmlaaGreatProg.lean LOADS. Nothing in Lean hashes anything: it is a label: what it is worth is what the hold of that sum in a sandbox is worth. -/
noncomputable def Tryz.pinned : Pinned := { name := "ytaihkpjbnkgmlaagreat", sum := "bc37a267ae50de7a878aa265f13c25b427e737fcfa09c8f8b2a3a2b4dcbf23e4", checked := Tryz.checked }
namespace Rows
def none {H : Type} : Left H := { results := [], args := [] }

/-- 'geoproverlaw44.DiagramRefutes': WHATEVER THE INPUT: true; the input reads as it did. -/
def diagramRefutesSpec : ChangeSpec := { name := "diagramRefutes", fn := fun _ => fun
  | [d1, d2, d3] => { results := [.lit (.bool true)], args := [d1, d2, d3] }
  | _ => none }
def diagramRefutesRow : OpenClaim := { program := "ytaihkpjbnkgmlaagreat", sum := "bc37a267ae50de7a878aa265f13c25b427e737fcfa09c8f8b2a3a2b4dcbf23e4", func := "geoprover/geoproverlaw44.DiagramRefutes", spec := "diagramRefutes", unfollowed := true, recurses := true, apart := false }
def DiagramRefutesSaid : Prop := diagramRefutesRow.holds Tryz.pinned (OpenSpec.ofChange diagramRefutesSpec)

/-- ITS FALSE NEIGHBOUR: 'it returns false'. Refute it at one input. -/
def diagramRefutesWrong : ChangeSpec := { name := "diagramRefutes", fn := fun _ => fun
  | [d1, d2, d3] => { results := [.lit (.bool false)], args := [d1, d2, d3] }
  | _ => none }
def DiagramRefutesWrongFalsely : Prop := diagramRefutesRow.holds Tryz.pinned (OpenSpec.ofChange diagramRefutesWrong)

/-- 'geoproverlaw27.RefuteChoices': WHATEVER THE INPUT: true; the input reads as it did. -/
def refuteChoicesSpec : ChangeSpec := { name := "refuteChoices", fn := fun _ => fun
  | [d1, d2] => { results := [.lit (.bool true)], args := [d1, d2] }
  | _ => none }
def refuteChoicesRow : OpenClaim := { program := "ytaihkpjbnkgmlaagreat", sum := "bc37a267ae50de7a878aa265f13c25b427e737fcfa09c8f8b2a3a2b4dcbf23e4", func := "geoprover/geoproverlaw27.RefuteChoices", spec := "refuteChoices", unfollowed := true, recurses := true, apart := false }
def RefuteChoicesSaid : Prop := refuteChoicesRow.holds Tryz.pinned (OpenSpec.ofChange refuteChoicesSpec)

/-- ITS FALSE NEIGHBOUR: 'it returns false'. Refute it at one input. -/
def refuteChoicesWrong : ChangeSpec := { name := "refuteChoices", fn := fun _ => fun
  | [d1, d2] => { results := [.lit (.bool false)], args := [d1, d2] }
  | _ => none }
def RefuteChoicesWrongFalsely : Prop := refuteChoicesRow.holds Tryz.pinned (OpenSpec.ofChange refuteChoicesWrong)

/-- 'geoproverlaw27.RefuteDiffers': WHATEVER THE INPUT: true; the input reads as it did. -/
def refuteDiffersSpec : ChangeSpec := { name := "refuteDiffers", fn := fun _ => fun
  | [d1, d2, d3] => { results := [.lit (.bool true)], args := [d1, d2, d3] }
  | _ => none }
def refuteDiffersRow : OpenClaim := { program := "ytaihkpjbnkgmlaagreat", sum := "bc37a267ae50de7a878aa265f13c25b427e737fcfa09c8f8b2a3a2b4dcbf23e4", func := "geoprover/geoproverlaw27.RefuteDiffers", spec := "refuteDiffers", unfollowed := true, recurses := true, apart := false }
def RefuteDiffersSaid : Prop := refuteDiffersRow.holds Tryz.pinned (OpenSpec.ofChange refuteDiffersSpec)

/-- ITS FALSE NEIGHBOUR: 'it returns false'. Refute it at one input. -/
def refuteDiffersWrong : ChangeSpec := { name := "refuteDiffers", fn := fun _ => fun
  | [d1, d2, d3] => { results := [.lit (.bool false)], args := [d1, d2, d3] }
  | _ => none }
def RefuteDiffersWrongFalsely : Prop := refuteDiffersRow.holds Tryz.pinned (OpenSpec.ofChange refuteDiffersWrong)

/-- 'geoproverlaw44.DiagramSolves': WHATEVER THE INPUT: true; the input reads as it did. -/
def diagramSolvesSpec : ChangeSpec := { name := "diagramSolves", fn := fun _ => fun
  | [d] => { results := [.lit (.bool true)], args := [d] }
  | _ => none }
def diagramSolvesRow : OpenClaim := { program := "ytaihkpjbnkgmlaagreat", sum := "bc37a267ae50de7a878aa265f13c25b427e737fcfa09c8f8b2a3a2b4dcbf23e4", func := "geoprover/geoproverlaw44.DiagramSolves", spec := "diagramSolves", unfollowed := true, recurses := true, apart := false }
def DiagramSolvesSaid : Prop := diagramSolvesRow.holds Tryz.pinned (OpenSpec.ofChange diagramSolvesSpec)

/-- ITS FALSE NEIGHBOUR: 'it returns false'. Refute it at one input. -/
def diagramSolvesWrong : ChangeSpec := { name := "diagramSolves", fn := fun _ => fun
  | [d] => { results := [.lit (.bool false)], args := [d] }
  | _ => none }
def DiagramSolvesWrongFalsely : Prop := diagramSolvesRow.holds Tryz.pinned (OpenSpec.ofChange diagramSolvesWrong)

/-- 'geoproverlaw44.DiagramNarrows': WHATEVER THE INPUT: true; the input reads as it did. -/
def diagramNarrowsSpec : ChangeSpec := { name := "diagramNarrows", fn := fun _ => fun
  | [d1, d2] => { results := [.lit (.bool true)], args := [d1, d2] }
  | _ => none }
def diagramNarrowsRow : OpenClaim := { program := "ytaihkpjbnkgmlaagreat", sum := "bc37a267ae50de7a878aa265f13c25b427e737fcfa09c8f8b2a3a2b4dcbf23e4", func := "geoprover/geoproverlaw44.DiagramNarrows", spec := "diagramNarrows", unfollowed := true, recurses := true, apart := false }
def DiagramNarrowsSaid : Prop := diagramNarrowsRow.holds Tryz.pinned (OpenSpec.ofChange diagramNarrowsSpec)

/-- ITS FALSE NEIGHBOUR: 'it returns false'. Refute it at one input. -/
def diagramNarrowsWrong : ChangeSpec := { name := "diagramNarrows", fn := fun _ => fun
  | [d1, d2] => { results := [.lit (.bool false)], args := [d1, d2] }
  | _ => none }
def DiagramNarrowsWrongFalsely : Prop := diagramNarrowsRow.holds Tryz.pinned (OpenSpec.ofChange diagramNarrowsWrong)

/-- 'geoproverlaw44.DiagramSound': WHATEVER THE INPUT: true; the input reads as it did. -/
def diagramSoundSpec : ChangeSpec := { name := "diagramSound", fn := fun _ => fun
  | [d1, d2, d3] => { results := [.lit (.bool true)], args := [d1, d2, d3] }
  | _ => none }
def diagramSoundRow : OpenClaim := { program := "ytaihkpjbnkgmlaagreat", sum := "bc37a267ae50de7a878aa265f13c25b427e737fcfa09c8f8b2a3a2b4dcbf23e4", func := "geoprover/geoproverlaw44.DiagramSound", spec := "diagramSound", unfollowed := true, recurses := true, apart := false }
def DiagramSoundSaid : Prop := diagramSoundRow.holds Tryz.pinned (OpenSpec.ofChange diagramSoundSpec)

/-- ITS FALSE NEIGHBOUR: 'it returns false'. Refute it at one input. -/
def diagramSoundWrong : ChangeSpec := { name := "diagramSound", fn := fun _ => fun
  | [d1, d2, d3] => { results := [.lit (.bool false)], args := [d1, d2, d3] }
  | _ => none }
def DiagramSoundWrongFalsely : Prop := diagramSoundRow.holds Tryz.pinned (OpenSpec.ofChange diagramSoundWrong)

/- THE SECOND FORM. 'bulk': how many values and letters a reading holds, each counted each time it is reached (what is shared counts as often as it is met; a slice's spare places count too). A statement '..UptoSaid' is the law's where the arguments, and the package variables that the reading takes, are together of bulk at most 1048576: NARROWER than '..Said'. Prove '..Said' where nothing that the law and all that it calls make is longer than what came in: it says more and counts as full. Else prove '..UptoSaid'. A law counts once. -/
mutual
def uptoBulk {H : Type} : DataW H → Nat
  | .lit (.string bytes) => bytes.length + 1
  | .lit _ => 1
  | .nil => 1
  | .ptr d => uptoBulk d + 1
  | .slice elems spare => uptoBulkAll elems + uptoBulkAll spare + 1
  | .agg parts => uptoBulkAll parts + 1
  | .iface _ d => uptoBulk d + 1
  | .map entries => uptoBulkEntries entries + 1
  | .held _ => 1
def uptoBulkAll {H : Type} : List (DataW H) → Nat
  | [] => 0
  | d :: r => uptoBulk d + uptoBulkAll r
def uptoBulkEntries {H : Type} : List (Lit × DataW H) → Nat
  | [] => 0
  | x :: r => uptoBulkEntry x + uptoBulkEntries r
def uptoBulkEntry {H : Type} : Lit × DataW H → Nat
  | (.string bytes, d) => bytes.length + uptoBulk d + 1
  | (_, d) => uptoBulk d + 1
 end
def uptoSmall : (H : Type) → List (DataW H) → Bool := fun _ ds => decide (uptoBulkAll ds ≤ 1048576)
def OpenSpec.upto (s : _root_.Go.ChangeSpec) : _root_.Go.OpenSpec := { _root_.Go.OpenSpec.ofChange s with cond := some uptoSmall }

/-- 'geoproverlaw44.DiagramRefutes', WHERE WHAT IT READS IS OF BULK AT MOST 1048576: true; the input reads as it did. -/
def diagramRefutesUptoRow : OpenClaim := { program := "ytaihkpjbnkgmlaagreat", sum := "bc37a267ae50de7a878aa265f13c25b427e737fcfa09c8f8b2a3a2b4dcbf23e4", func := "geoprover/geoproverlaw44.DiagramRefutes", spec := "diagramRefutes", unfollowed := true, recurses := true, apart := false, narrowed := true }
def DiagramRefutesUptoSaid : Prop := diagramRefutesUptoRow.holds Tryz.pinned (OpenSpec.upto diagramRefutesSpec)

/-- 'geoproverlaw27.RefuteChoices', WHERE WHAT IT READS IS OF BULK AT MOST 1048576: true; the input reads as it did. -/
def refuteChoicesUptoRow : OpenClaim := { program := "ytaihkpjbnkgmlaagreat", sum := "bc37a267ae50de7a878aa265f13c25b427e737fcfa09c8f8b2a3a2b4dcbf23e4", func := "geoprover/geoproverlaw27.RefuteChoices", spec := "refuteChoices", unfollowed := true, recurses := true, apart := false, narrowed := true }
def RefuteChoicesUptoSaid : Prop := refuteChoicesUptoRow.holds Tryz.pinned (OpenSpec.upto refuteChoicesSpec)

/-- 'geoproverlaw27.RefuteDiffers', WHERE WHAT IT READS IS OF BULK AT MOST 1048576: true; the input reads as it did. -/
def refuteDiffersUptoRow : OpenClaim := { program := "ytaihkpjbnkgmlaagreat", sum := "bc37a267ae50de7a878aa265f13c25b427e737fcfa09c8f8b2a3a2b4dcbf23e4", func := "geoprover/geoproverlaw27.RefuteDiffers", spec := "refuteDiffers", unfollowed := true, recurses := true, apart := false, narrowed := true }
def RefuteDiffersUptoSaid : Prop := refuteDiffersUptoRow.holds Tryz.pinned (OpenSpec.upto refuteDiffersSpec)

/-- 'geoproverlaw44.DiagramSolves', WHERE WHAT IT READS IS OF BULK AT MOST 1048576: true; the input reads as it did. -/
def diagramSolvesUptoRow : OpenClaim := { program := "ytaihkpjbnkgmlaagreat", sum := "bc37a267ae50de7a878aa265f13c25b427e737fcfa09c8f8b2a3a2b4dcbf23e4", func := "geoprover/geoproverlaw44.DiagramSolves", spec := "diagramSolves", unfollowed := true, recurses := true, apart := false, narrowed := true }
def DiagramSolvesUptoSaid : Prop := diagramSolvesUptoRow.holds Tryz.pinned (OpenSpec.upto diagramSolvesSpec)

/-- 'geoproverlaw44.DiagramNarrows', WHERE WHAT IT READS IS OF BULK AT MOST 1048576: true; the input reads as it did. -/
def diagramNarrowsUptoRow : OpenClaim := { program := "ytaihkpjbnkgmlaagreat", sum := "bc37a267ae50de7a878aa265f13c25b427e737fcfa09c8f8b2a3a2b4dcbf23e4", func := "geoprover/geoproverlaw44.DiagramNarrows", spec := "diagramNarrows", unfollowed := true, recurses := true, apart := false, narrowed := true }
def DiagramNarrowsUptoSaid : Prop := diagramNarrowsUptoRow.holds Tryz.pinned (OpenSpec.upto diagramNarrowsSpec)

/-- 'geoproverlaw44.DiagramSound', WHERE WHAT IT READS IS OF BULK AT MOST 1048576: true; the input reads as it did. -/
def diagramSoundUptoRow : OpenClaim := { program := "ytaihkpjbnkgmlaagreat", sum := "bc37a267ae50de7a878aa265f13c25b427e737fcfa09c8f8b2a3a2b4dcbf23e4", func := "geoprover/geoproverlaw44.DiagramSound", spec := "diagramSound", unfollowed := true, recurses := true, apart := false, narrowed := true }
def DiagramSoundUptoSaid : Prop := diagramSoundUptoRow.holds Tryz.pinned (OpenSpec.upto diagramSoundSpec)

end Rows
end Go.Proofs.YtaihkpjbnkgmlaaGreat
