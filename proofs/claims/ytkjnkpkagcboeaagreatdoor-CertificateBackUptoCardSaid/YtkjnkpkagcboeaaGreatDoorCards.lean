/-
  DERIVED. GIVEN WITH THE SEED: THE CARDS: each row of YtkjnkpkagcboeaaGreatDoorRows.lean that lists a variable, with what it lists TIED to the program's text (the seventh form; the later family's looks); each row that meets fmt, with fmt's text TOLD by the authors' own Lean function (tested against real Go, not proved from fmt's source: count such statements apart). THE CARD IS WHAT COUNTS. Prove the row's statement (the work); the ties are given (YtkjnkpkagcboeaaGreatDoorTie.lean); close each card by the builder's one call (the guide's Derived/Test/ToyasCard.lean, 'card_holds'). Laid BY PROGRAM, IN A SANDBOX (cutbox-door.mjs). By AI agents, Wed Nov 11 2026. No macro, syntax, notation, axiom, sorry.
-/
import Derived.Test.YtkjnkpkagcboeaaGreatDoorRows
import GoSem.ClaimSeven
namespace Go.Proofs.YtkjnkpkagcboeaaGreatDoor
namespace Rows

/-- THE TIED CARD OF 'geoproverlaw07.PolytextPrints'. -/
def polytextPrintsCard : Claim7 := { stood := { row := polytextPrintsRow, standIns := [], harness := (true, "0bcd868a50857f0f7336e1d9590b1e478307cbc6296e1a8e9d06045159c42a96"), looks := true }, kinds := [], alts := [], laidByText := true, laidKinds := [.data, .data, .data, .sentinel, .sentinel], laidTests := true, laidLooks := .later }
def PolytextPrintsCardSaid : Prop := Claim7.holds Tryz.pinned (.plain (OpenSpec.ofChange polytextPrintsSpec)) polytextPrintsCard

/-- THE TIED CARD OF 'geoproverlaw07.PolytextBack'. -/
def polytextBackCard : Claim7 := { stood := { row := polytextBackRow, standIns := [], harness := (true, "0bcd868a50857f0f7336e1d9590b1e478307cbc6296e1a8e9d06045159c42a96"), looks := true }, kinds := [], alts := [], laidByText := true, laidKinds := [.data, .data, .data, .sentinel, .sentinel], laidTests := true, laidLooks := .later }
def PolytextBackCardSaid : Prop := Claim7.holds Tryz.pinned (.plain (OpenSpec.ofChange polytextBackSpec)) polytextBackCard

/-- THE TIED CARD OF 'geoproverlaw07.PolytextTexts'. -/
def polytextTextsCard : Claim7 := { stood := { row := polytextTextsRow, standIns := [], harness := (true, "0bcd868a50857f0f7336e1d9590b1e478307cbc6296e1a8e9d06045159c42a96"), looks := true }, kinds := [], alts := [], laidByText := true, laidKinds := [.data, .data, .data, .sentinel, .sentinel], laidTests := true, laidLooks := .later }
def PolytextTextsCardSaid : Prop := Claim7.holds Tryz.pinned (.plain (OpenSpec.ofChange polytextTextsSpec)) polytextTextsCard

/-- THE TIED CARD OF 'geoproverlaw07.PolytextOffsets'. -/
def polytextOffsetsCard : Claim7 := { stood := { row := polytextOffsetsRow, standIns := [], harness := (true, "0bcd868a50857f0f7336e1d9590b1e478307cbc6296e1a8e9d06045159c42a96"), looks := true }, kinds := [], alts := [], laidByText := true, laidKinds := [.data, .data, .data, .sentinel, .sentinel], laidTests := true, laidLooks := .later }
def PolytextOffsetsCardSaid : Prop := Claim7.holds Tryz.pinned (.plain (OpenSpec.ofChange polytextOffsetsSpec)) polytextOffsetsCard

/-- THE TIED CARD OF 'geoproverlaw30.CertificateReads'. -/
def certificateReadsCard : Claim7 := { stood := { row := certificateReadsRow, standIns := [], harness := (true, "0bcd868a50857f0f7336e1d9590b1e478307cbc6296e1a8e9d06045159c42a96"), looks := true }, kinds := [], alts := [], laidByText := true, laidKinds := [.data, .data, .data, .data, .sentinel, .sentinel, .pinned], laidTests := true, laidLooks := .later }
def CertificateReadsCardSaid : Prop := Claim7.holds Tryz.pinned (.plain (OpenSpec.ofChange certificateReadsSpec)) certificateReadsCard

/-- THE TIED CARD OF 'geoproverlaw30.CertificateBack'. -/
def certificateBackCard : Claim7 := { stood := { row := certificateBackRow, standIns := [], harness := (true, "0bcd868a50857f0f7336e1d9590b1e478307cbc6296e1a8e9d06045159c42a96"), looks := true }, kinds := [], alts := [], laidByText := true, laidKinds := [.data, .data, .data, .data, .sentinel, .sentinel, .pinned], laidTests := true, laidLooks := .later }
def CertificateBackCardSaid : Prop := Claim7.holds Tryz.pinned (.plain (OpenSpec.ofChange certificateBackSpec)) certificateBackCard

/-- THE TIED CARD OF 'geoproverlaw30.CertificateForm'. -/
def certificateFormCard : Claim7 := { stood := { row := certificateFormRow, standIns := [], harness := (true, "0bcd868a50857f0f7336e1d9590b1e478307cbc6296e1a8e9d06045159c42a96"), looks := true }, kinds := [], alts := [], laidByText := true, laidKinds := [.data, .data, .data, .data, .sentinel, .sentinel, .pinned], laidTests := true, laidLooks := .later }
def CertificateFormCardSaid : Prop := Claim7.holds Tryz.pinned (.plain (OpenSpec.ofChange certificateFormSpec)) certificateFormCard

/-- THE TIED CARD OF 'geoproverlaw30.CertificateEnds'. -/
def certificateEndsCard : Claim7 := { stood := { row := certificateEndsRow, standIns := [], harness := (true, "0bcd868a50857f0f7336e1d9590b1e478307cbc6296e1a8e9d06045159c42a96"), looks := true }, kinds := [], alts := [], laidByText := true, laidKinds := [.data, .data, .data, .data, .sentinel, .sentinel, .pinned], laidTests := true, laidLooks := .later }
def CertificateEndsCardSaid : Prop := Claim7.holds Tryz.pinned (.plain (OpenSpec.ofChange certificateEndsSpec)) certificateEndsCard

/-- THE SECOND FORM's CARD OF 'geoproverlaw07.PolytextPrints'. -/
def polytextPrintsUptoCard : Claim7 := { stood := { row := polytextPrintsUptoRow, standIns := [], harness := (true, "0bcd868a50857f0f7336e1d9590b1e478307cbc6296e1a8e9d06045159c42a96"), looks := true }, kinds := [], alts := [], laidByText := true, laidKinds := [.data, .data, .data, .sentinel, .sentinel], laidTests := true, laidLooks := .later }
def PolytextPrintsUptoCardSaid : Prop := Claim7.holds Tryz.pinned (.plain (OpenSpec.upto polytextPrintsSpec)) polytextPrintsUptoCard

/-- THE SECOND FORM's CARD OF 'geoproverlaw07.PolytextBack'. -/
def polytextBackUptoCard : Claim7 := { stood := { row := polytextBackUptoRow, standIns := [], harness := (true, "0bcd868a50857f0f7336e1d9590b1e478307cbc6296e1a8e9d06045159c42a96"), looks := true }, kinds := [], alts := [], laidByText := true, laidKinds := [.data, .data, .data, .sentinel, .sentinel], laidTests := true, laidLooks := .later }
def PolytextBackUptoCardSaid : Prop := Claim7.holds Tryz.pinned (.plain (OpenSpec.upto polytextBackSpec)) polytextBackUptoCard

/-- THE SECOND FORM's CARD OF 'geoproverlaw07.PolytextTexts'. -/
def polytextTextsUptoCard : Claim7 := { stood := { row := polytextTextsUptoRow, standIns := [], harness := (true, "0bcd868a50857f0f7336e1d9590b1e478307cbc6296e1a8e9d06045159c42a96"), looks := true }, kinds := [], alts := [], laidByText := true, laidKinds := [.data, .data, .data, .sentinel, .sentinel], laidTests := true, laidLooks := .later }
def PolytextTextsUptoCardSaid : Prop := Claim7.holds Tryz.pinned (.plain (OpenSpec.upto polytextTextsSpec)) polytextTextsUptoCard

/-- THE SECOND FORM's CARD OF 'geoproverlaw07.PolytextOffsets'. -/
def polytextOffsetsUptoCard : Claim7 := { stood := { row := polytextOffsetsUptoRow, standIns := [], harness := (true, "0bcd868a50857f0f7336e1d9590b1e478307cbc6296e1a8e9d06045159c42a96"), looks := true }, kinds := [], alts := [], laidByText := true, laidKinds := [.data, .data, .data, .sentinel, .sentinel], laidTests := true, laidLooks := .later }
def PolytextOffsetsUptoCardSaid : Prop := Claim7.holds Tryz.pinned (.plain (OpenSpec.upto polytextOffsetsSpec)) polytextOffsetsUptoCard

/-- THE SECOND FORM's CARD OF 'geoproverlaw30.CertificateReads'. -/
def certificateReadsUptoCard : Claim7 := { stood := { row := certificateReadsUptoRow, standIns := [], harness := (true, "0bcd868a50857f0f7336e1d9590b1e478307cbc6296e1a8e9d06045159c42a96"), looks := true }, kinds := [], alts := [], laidByText := true, laidKinds := [.data, .data, .data, .data, .sentinel, .sentinel, .pinned], laidTests := true, laidLooks := .later }
def CertificateReadsUptoCardSaid : Prop := Claim7.holds Tryz.pinned (.plain (OpenSpec.upto certificateReadsSpec)) certificateReadsUptoCard

/-- THE SECOND FORM's CARD OF 'geoproverlaw30.CertificateBack'. -/
def certificateBackUptoCard : Claim7 := { stood := { row := certificateBackUptoRow, standIns := [], harness := (true, "0bcd868a50857f0f7336e1d9590b1e478307cbc6296e1a8e9d06045159c42a96"), looks := true }, kinds := [], alts := [], laidByText := true, laidKinds := [.data, .data, .data, .data, .sentinel, .sentinel, .pinned], laidTests := true, laidLooks := .later }
def CertificateBackUptoCardSaid : Prop := Claim7.holds Tryz.pinned (.plain (OpenSpec.upto certificateBackSpec)) certificateBackUptoCard

/-- THE SECOND FORM's CARD OF 'geoproverlaw30.CertificateForm'. -/
def certificateFormUptoCard : Claim7 := { stood := { row := certificateFormUptoRow, standIns := [], harness := (true, "0bcd868a50857f0f7336e1d9590b1e478307cbc6296e1a8e9d06045159c42a96"), looks := true }, kinds := [], alts := [], laidByText := true, laidKinds := [.data, .data, .data, .data, .sentinel, .sentinel, .pinned], laidTests := true, laidLooks := .later }
def CertificateFormUptoCardSaid : Prop := Claim7.holds Tryz.pinned (.plain (OpenSpec.upto certificateFormSpec)) certificateFormUptoCard

/-- THE SECOND FORM's CARD OF 'geoproverlaw30.CertificateEnds'. -/
def certificateEndsUptoCard : Claim7 := { stood := { row := certificateEndsUptoRow, standIns := [], harness := (true, "0bcd868a50857f0f7336e1d9590b1e478307cbc6296e1a8e9d06045159c42a96"), looks := true }, kinds := [], alts := [], laidByText := true, laidKinds := [.data, .data, .data, .data, .sentinel, .sentinel, .pinned], laidTests := true, laidLooks := .later }
def CertificateEndsUptoCardSaid : Prop := Claim7.holds Tryz.pinned (.plain (OpenSpec.upto certificateEndsSpec)) certificateEndsUptoCard
end Rows
end Go.Proofs.YtkjnkpkagcboeaaGreatDoor
