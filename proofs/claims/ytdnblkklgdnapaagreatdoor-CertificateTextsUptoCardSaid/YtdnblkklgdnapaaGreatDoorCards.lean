/-
  DERIVED. GIVEN WITH THE SEED: THE CARDS: each row of YtdnblkklgdnapaaGreatDoorRows.lean that lists a variable, with what it lists TIED to the program's text (the seventh form; the later family's looks); each row that meets fmt, with fmt's text TOLD by the authors' own Lean function (tested against real Go, not proved from fmt's source: count such statements apart). THE CARD IS WHAT COUNTS. Prove the row's statement (the work); the ties are given (YtdnblkklgdnapaaGreatDoorTie.lean); close each card by the builder's one call (the guide's Derived/Test/ToyasCard.lean, 'card_holds'). Laid BY PROGRAM, IN A SANDBOX (cutbox-door.mjs). By AI agents, Wed Nov 11 2026. No macro, syntax, notation, axiom, sorry.
-/
import Derived.Test.YtdnblkklgdnapaaGreatDoorRows
import GoSem.ClaimSeven
namespace Go.Proofs.YtdnblkklgdnapaaGreatDoor
namespace Rows

/-- THE TIED CARD OF 'geoproverlaw30.CertificateTexts'. -/
def certificateTextsCard : Claim7 := { stood := { row := certificateTextsRow, standIns := [], harness := (true, "7f76aedfeddc3f61f6c822992e7599d5d50043ddac57abbe432da6867dadb311"), looks := false }, kinds := [], alts := [], laidByText := true, laidKinds := [.data, .data, .data], laidTests := true, laidLooks := .later }
def CertificateTextsCardSaid : Prop := Claim7.holds Tryz.pinned (.plain (OpenSpec.ofChange certificateTextsSpec)) certificateTextsCard

/-- THE TIED CARD OF 'geoproverlaw26.InstanceChoices'. -/
def instanceChoicesCard : Claim7 := { stood := { row := instanceChoicesRow, standIns := [], harness := (true, "7f76aedfeddc3f61f6c822992e7599d5d50043ddac57abbe432da6867dadb311"), looks := false }, kinds := [], alts := [], laidByText := true, laidKinds := [.data, .data, .data], laidTests := true, laidLooks := .later }
def InstanceChoicesCardSaid : Prop := Claim7.holds Tryz.pinned (.plain (OpenSpec.ofChange instanceChoicesSpec)) instanceChoicesCard

/-- THE TIED CARD OF 'geoproverlaw26.InstancePoints'. -/
def instancePointsCard : Claim7 := { stood := { row := instancePointsRow, standIns := [], harness := (true, "7f76aedfeddc3f61f6c822992e7599d5d50043ddac57abbe432da6867dadb311"), looks := false }, kinds := [], alts := [], laidByText := true, laidKinds := [.data, .data, .data], laidTests := true, laidLooks := .later }
def InstancePointsCardSaid : Prop := Claim7.holds Tryz.pinned (.plain (OpenSpec.ofChange instancePointsSpec)) instancePointsCard

/-- THE TIED CARD OF 'geoproverlaw26.InstanceTexts'. -/
def instanceTextsCard : Claim7 := { stood := { row := instanceTextsRow, standIns := [], harness := (true, "7f76aedfeddc3f61f6c822992e7599d5d50043ddac57abbe432da6867dadb311"), looks := false }, kinds := [], alts := [], laidByText := true, laidKinds := [.data, .data, .data], laidTests := true, laidLooks := .later }
def InstanceTextsCardSaid : Prop := Claim7.holds Tryz.pinned (.plain (OpenSpec.ofChange instanceTextsSpec)) instanceTextsCard

/-- THE SECOND FORM's CARD OF 'geoproverlaw30.CertificateTexts'. -/
def certificateTextsUptoCard : Claim7 := { stood := { row := certificateTextsUptoRow, standIns := [], harness := (true, "7f76aedfeddc3f61f6c822992e7599d5d50043ddac57abbe432da6867dadb311"), looks := false }, kinds := [], alts := [], laidByText := true, laidKinds := [.data, .data, .data], laidTests := true, laidLooks := .later }
def CertificateTextsUptoCardSaid : Prop := Claim7.holds Tryz.pinned (.plain (OpenSpec.upto certificateTextsSpec)) certificateTextsUptoCard

/-- THE SECOND FORM's CARD OF 'geoproverlaw26.InstanceChoices'. -/
def instanceChoicesUptoCard : Claim7 := { stood := { row := instanceChoicesUptoRow, standIns := [], harness := (true, "7f76aedfeddc3f61f6c822992e7599d5d50043ddac57abbe432da6867dadb311"), looks := false }, kinds := [], alts := [], laidByText := true, laidKinds := [.data, .data, .data], laidTests := true, laidLooks := .later }
def InstanceChoicesUptoCardSaid : Prop := Claim7.holds Tryz.pinned (.plain (OpenSpec.upto instanceChoicesSpec)) instanceChoicesUptoCard

/-- THE SECOND FORM's CARD OF 'geoproverlaw26.InstancePoints'. -/
def instancePointsUptoCard : Claim7 := { stood := { row := instancePointsUptoRow, standIns := [], harness := (true, "7f76aedfeddc3f61f6c822992e7599d5d50043ddac57abbe432da6867dadb311"), looks := false }, kinds := [], alts := [], laidByText := true, laidKinds := [.data, .data, .data], laidTests := true, laidLooks := .later }
def InstancePointsUptoCardSaid : Prop := Claim7.holds Tryz.pinned (.plain (OpenSpec.upto instancePointsSpec)) instancePointsUptoCard

/-- THE SECOND FORM's CARD OF 'geoproverlaw26.InstanceTexts'. -/
def instanceTextsUptoCard : Claim7 := { stood := { row := instanceTextsUptoRow, standIns := [], harness := (true, "7f76aedfeddc3f61f6c822992e7599d5d50043ddac57abbe432da6867dadb311"), looks := false }, kinds := [], alts := [], laidByText := true, laidKinds := [.data, .data, .data], laidTests := true, laidLooks := .later }
def InstanceTextsUptoCardSaid : Prop := Claim7.holds Tryz.pinned (.plain (OpenSpec.upto instanceTextsSpec)) instanceTextsUptoCard
end Rows
end Go.Proofs.YtdnblkklgdnapaaGreatDoor
