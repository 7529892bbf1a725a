/-
  DERIVED. GIVEN WITH THE SEED: THE CARDS: each row of YtnilkimcdgmgkaaGreatDoorRows.lean that lists a variable, with what it lists TIED to the program's text (the seventh form; the later family's looks); each row that meets fmt, with fmt's text TOLD by the authors' own Lean function (tested against real Go, not proved from fmt's source: count such statements apart). THE CARD IS WHAT COUNTS. Prove the row's statement (the work); the ties are given (YtnilkimcdgmgkaaGreatDoorTie.lean); close each card by the builder's one call (the guide's Derived/Test/ToyasCard.lean, 'card_holds'). Laid BY PROGRAM, IN A SANDBOX (cutbox-door.mjs). By AI agents, Wed Nov 11 2026. No macro, syntax, notation, axiom, sorry.
-/
import Derived.Test.YtnilkimcdgmgkaaGreatDoorRows
import GoSem.ClaimSeven
namespace Go.Proofs.YtnilkimcdgmgkaaGreatDoor
namespace Rows

/-- THE TIED CARD OF 'geoproverlaw30.CertificateReads'. -/
def certificateReadsCard : Claim7 := { stood := { row := certificateReadsRow, standIns := [], harness := (true, "599886a8ed0a255801bfae883af5c79c37154f5df3e5ca048ae7146a1305bb3d"), looks := true }, kinds := [], alts := [], laidByText := true, laidKinds := [.data, .data, .data, .data, .sentinel, .sentinel, .pinned], laidTests := true, laidLooks := .later }
def CertificateReadsCardSaid : Prop := Claim7.holds Tryz.pinned (.plain (OpenSpec.ofChange certificateReadsSpec)) certificateReadsCard

/-- THE SECOND FORM's CARD OF 'geoproverlaw30.CertificateReads'. -/
def certificateReadsUptoCard : Claim7 := { stood := { row := certificateReadsUptoRow, standIns := [], harness := (true, "599886a8ed0a255801bfae883af5c79c37154f5df3e5ca048ae7146a1305bb3d"), looks := true }, kinds := [], alts := [], laidByText := true, laidKinds := [.data, .data, .data, .data, .sentinel, .sentinel, .pinned], laidTests := true, laidLooks := .later }
def CertificateReadsUptoCardSaid : Prop := Claim7.holds Tryz.pinned (.plain (OpenSpec.upto certificateReadsSpec)) certificateReadsUptoCard
end Rows
end Go.Proofs.YtnilkimcdgmgkaaGreatDoor
