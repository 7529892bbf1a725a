/-
  DERIVED. GIVEN WITH THE SEED: THE CARDS: each row of YtfaalkneigpcnaaGreatDoorRows.lean that lists a variable, with what it lists TIED to the program's text (the seventh form; the later family's looks); each row that meets fmt, with fmt's text TOLD by the authors' own Lean function (tested against real Go, not proved from fmt's source: count such statements apart). THE CARD IS WHAT COUNTS. Prove the row's statement (the work); the ties are given (YtfaalkneigpcnaaGreatDoorTie.lean); close each card by the builder's one call (the guide's Derived/Test/ToyasCard.lean, 'card_holds'). Laid BY PROGRAM, IN A SANDBOX (cutbox-door.mjs). By AI agents, Wed Nov 11 2026. No macro, syntax, notation, axiom, sorry.
-/
import Derived.Test.YtfaalkneigpcnaaGreatDoorRows
import GoSem.ClaimSeven
namespace Go.Proofs.YtfaalkneigpcnaaGreatDoor
namespace Rows

/-- THE TIED CARD OF 'geoproverlaw26.InstanceChoices'. -/
def instanceChoicesCard : Claim7 := { stood := { row := instanceChoicesRow, standIns := [], harness := (true, "5930b7f0ff24690760047bfffd8f32f92feb22101c85751c71a20975c3c54c4a"), looks := false }, kinds := [], alts := [], laidByText := true, laidKinds := [.data, .data, .data], laidTests := true, laidLooks := .later }
def InstanceChoicesCardSaid : Prop := Claim7.holds Tryz.pinned (.plain (OpenSpec.ofChange instanceChoicesSpec)) instanceChoicesCard

/-- THE TIED CARD OF 'geoproverlaw26.InstancePoints'. -/
def instancePointsCard : Claim7 := { stood := { row := instancePointsRow, standIns := [], harness := (true, "5930b7f0ff24690760047bfffd8f32f92feb22101c85751c71a20975c3c54c4a"), looks := false }, kinds := [], alts := [], laidByText := true, laidKinds := [.data, .data, .data], laidTests := true, laidLooks := .later }
def InstancePointsCardSaid : Prop := Claim7.holds Tryz.pinned (.plain (OpenSpec.ofChange instancePointsSpec)) instancePointsCard

/-- THE TIED CARD OF 'geoproverlaw26.InstanceTexts'. -/
def instanceTextsCard : Claim7 := { stood := { row := instanceTextsRow, standIns := [], harness := (true, "5930b7f0ff24690760047bfffd8f32f92feb22101c85751c71a20975c3c54c4a"), looks := false }, kinds := [], alts := [], laidByText := true, laidKinds := [.data, .data, .data], laidTests := true, laidLooks := .later }
def InstanceTextsCardSaid : Prop := Claim7.holds Tryz.pinned (.plain (OpenSpec.ofChange instanceTextsSpec)) instanceTextsCard

/-- THE SECOND FORM's CARD OF 'geoproverlaw26.InstanceChoices'. -/
def instanceChoicesUptoCard : Claim7 := { stood := { row := instanceChoicesUptoRow, standIns := [], harness := (true, "5930b7f0ff24690760047bfffd8f32f92feb22101c85751c71a20975c3c54c4a"), looks := false }, kinds := [], alts := [], laidByText := true, laidKinds := [.data, .data, .data], laidTests := true, laidLooks := .later }
def InstanceChoicesUptoCardSaid : Prop := Claim7.holds Tryz.pinned (.plain (OpenSpec.upto instanceChoicesSpec)) instanceChoicesUptoCard

/-- THE SECOND FORM's CARD OF 'geoproverlaw26.InstancePoints'. -/
def instancePointsUptoCard : Claim7 := { stood := { row := instancePointsUptoRow, standIns := [], harness := (true, "5930b7f0ff24690760047bfffd8f32f92feb22101c85751c71a20975c3c54c4a"), looks := false }, kinds := [], alts := [], laidByText := true, laidKinds := [.data, .data, .data], laidTests := true, laidLooks := .later }
def InstancePointsUptoCardSaid : Prop := Claim7.holds Tryz.pinned (.plain (OpenSpec.upto instancePointsSpec)) instancePointsUptoCard

/-- THE SECOND FORM's CARD OF 'geoproverlaw26.InstanceTexts'. -/
def instanceTextsUptoCard : Claim7 := { stood := { row := instanceTextsUptoRow, standIns := [], harness := (true, "5930b7f0ff24690760047bfffd8f32f92feb22101c85751c71a20975c3c54c4a"), looks := false }, kinds := [], alts := [], laidByText := true, laidKinds := [.data, .data, .data], laidTests := true, laidLooks := .later }
def InstanceTextsUptoCardSaid : Prop := Claim7.holds Tryz.pinned (.plain (OpenSpec.upto instanceTextsSpec)) instanceTextsUptoCard
end Rows
end Go.Proofs.YtfaalkneigpcnaaGreatDoor
