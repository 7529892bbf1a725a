/-
  DERIVED. GIVEN WITH THE SEED: THE CARDS: each row of YtmeplgagpnligaaDoorRows.lean that lists a variable, with what it lists TIED to the program's text (the seventh form; the later family's looks); each row that meets fmt, with fmt's text TOLD by the authors' own Lean function (tested against real Go, not proved from fmt's source: count such statements apart). THE CARD IS WHAT COUNTS. Prove the row's statement (the work); the ties are given (YtmeplgagpnligaaDoorTie.lean); close each card by the builder's one call (the guide's Derived/Test/ToyasCard.lean, 'card_holds'). Laid BY PROGRAM, IN A SANDBOX (cutbox-door.mjs). By AI agents, Wed Nov 11 2026. No macro, syntax, notation, axiom, sorry.
-/
import Derived.Test.YtmeplgagpnligaaDoorRows
import GoSem.ClaimSeven
namespace Go.Proofs.YtmeplgagpnligaaDoor
namespace Rows

/-- THE TIED CARD OF 'geoproverlaw49.LibraryEntries'. -/
def libraryEntriesCard : Claim7 := { stood := { row := libraryEntriesRow, standIns := [], harness := (true, "1fc45319f4f6ac388a5dadb001c9e3a315580ee810e1626b5994baaae40407e0"), looks := false }, kinds := [], alts := [], laidByText := true, laidKinds := [.data, .data, .data, .data, .pinned], laidTests := true, laidLooks := .later }
def LibraryEntriesCardSaid : Prop := Claim7.holds Tryd.pinned (.plain (OpenSpec.ofChange libraryEntriesSpec)) libraryEntriesCard

/-- THE TIED CARD OF 'geoproverlaw49.LibraryFinds'. -/
def libraryFindsCard : Claim7 := { stood := { row := libraryFindsRow, standIns := [], harness := (true, "1fc45319f4f6ac388a5dadb001c9e3a315580ee810e1626b5994baaae40407e0"), looks := false }, kinds := [], alts := [], laidByText := true, laidKinds := [.data, .data, .data, .data, .pinned], laidTests := true, laidLooks := .later }
def LibraryFindsCardSaid : Prop := Claim7.holds Tryd.pinned (.plain (OpenSpec.ofChange libraryFindsSpec)) libraryFindsCard

/-- THE SECOND FORM's CARD OF 'geoproverlaw49.LibraryEntries'. -/
def libraryEntriesUptoCard : Claim7 := { stood := { row := libraryEntriesUptoRow, standIns := [], harness := (true, "1fc45319f4f6ac388a5dadb001c9e3a315580ee810e1626b5994baaae40407e0"), looks := false }, kinds := [], alts := [], laidByText := true, laidKinds := [.data, .data, .data, .data, .pinned], laidTests := true, laidLooks := .later }
def LibraryEntriesUptoCardSaid : Prop := Claim7.holds Tryd.pinned (.plain (OpenSpec.upto libraryEntriesSpec)) libraryEntriesUptoCard

/-- THE SECOND FORM's CARD OF 'geoproverlaw49.LibraryFinds'. -/
def libraryFindsUptoCard : Claim7 := { stood := { row := libraryFindsUptoRow, standIns := [], harness := (true, "1fc45319f4f6ac388a5dadb001c9e3a315580ee810e1626b5994baaae40407e0"), looks := false }, kinds := [], alts := [], laidByText := true, laidKinds := [.data, .data, .data, .data, .pinned], laidTests := true, laidLooks := .later }
def LibraryFindsUptoCardSaid : Prop := Claim7.holds Tryd.pinned (.plain (OpenSpec.upto libraryFindsSpec)) libraryFindsUptoCard
end Rows
end Go.Proofs.YtmeplgagpnligaaDoor
