/-
  DERIVED. GIVEN WITH THE SEED: THE CARDS: each row of YthbpmepjmebolaaGreatDoorRows.lean that lists a variable, with what it lists TIED to the program's text (the seventh form; the later family's looks); each row that meets fmt, with fmt's text TOLD by the authors' own Lean function (tested against real Go, not proved from fmt's source: count such statements apart). THE CARD IS WHAT COUNTS. Prove the row's statement (the work); the ties are given (YthbpmepjmebolaaGreatDoorTie.lean); close each card by the builder's one call (the guide's Derived/Test/ToyasCard.lean, 'card_holds'). Laid BY PROGRAM, IN A SANDBOX (cutbox-door.mjs). By AI agents, Wed Nov 11 2026. No macro, syntax, notation, axiom, sorry.
-/
import Derived.Test.YthbpmepjmebolaaGreatDoorRows
import GoSem.ClaimSeven
namespace Go.Proofs.YthbpmepjmebolaaGreatDoor
namespace Rows

/-- THE TIED CARD OF 'isatislaw12.BookReplays'. -/
def bookReplaysCard : Claim7 := { stood := { row := bookReplaysRow, standIns := [], harness := (true, "fa3e7190b945148e6bada08059a5bf2c69f80129c1117abb93ecc85536e256c4"), looks := true }, kinds := [], alts := [], laidByText := true, laidKinds := [.data, .data, .data, .data, .sentinel, .sentinel, .pinned], laidTests := true, laidLooks := .later }
def BookReplaysCardSaid : Prop := Claim7.holds Tryz.pinned (.plain (OpenSpec.ofChange bookReplaysSpec)) bookReplaysCard

/-- THE TIED CARD OF 'isatislaw12.BookStands'. -/
def bookStandsCard : Claim7 := { stood := { row := bookStandsRow, standIns := [], harness := (true, "fa3e7190b945148e6bada08059a5bf2c69f80129c1117abb93ecc85536e256c4"), looks := true }, kinds := [], alts := [], laidByText := true, laidKinds := [.data, .data, .data, .data, .sentinel, .sentinel, .pinned], laidTests := true, laidLooks := .later }
def BookStandsCardSaid : Prop := Claim7.holds Tryz.pinned (.plain (OpenSpec.ofChange bookStandsSpec)) bookStandsCard

/-- THE TIED CARD OF 'isatislaw12.BookParts'. -/
def bookPartsCard : Claim7 := { stood := { row := bookPartsRow, standIns := [], harness := (true, "fa3e7190b945148e6bada08059a5bf2c69f80129c1117abb93ecc85536e256c4"), looks := true }, kinds := [], alts := [], laidByText := true, laidKinds := [.data, .data, .data, .data, .sentinel, .sentinel, .pinned], laidTests := true, laidLooks := .later }
def BookPartsCardSaid : Prop := Claim7.holds Tryz.pinned (.plain (OpenSpec.ofChange bookPartsSpec)) bookPartsCard

/-- THE TIED CARD OF 'isatislaw12.BookUndone'. -/
def bookUndoneCard : Claim7 := { stood := { row := bookUndoneRow, standIns := [], harness := (true, "fa3e7190b945148e6bada08059a5bf2c69f80129c1117abb93ecc85536e256c4"), looks := true }, kinds := [], alts := [], laidByText := true, laidKinds := [.data, .data, .data, .data, .sentinel, .sentinel, .pinned], laidTests := true, laidLooks := .later }
def BookUndoneCardSaid : Prop := Claim7.holds Tryz.pinned (.plain (OpenSpec.ofChange bookUndoneSpec)) bookUndoneCard

/-- THE TIED CARD OF 'isatislaw12.BookAgain'. -/
def bookAgainCard : Claim7 := { stood := { row := bookAgainRow, standIns := [], harness := (true, "fa3e7190b945148e6bada08059a5bf2c69f80129c1117abb93ecc85536e256c4"), looks := true }, kinds := [], alts := [], laidByText := true, laidKinds := [.data, .data, .data, .data, .sentinel, .sentinel, .pinned], laidTests := true, laidLooks := .later }
def BookAgainCardSaid : Prop := Claim7.holds Tryz.pinned (.plain (OpenSpec.ofChange bookAgainSpec)) bookAgainCard

/-- THE SECOND FORM's CARD OF 'isatislaw12.BookReplays'. -/
def bookReplaysUptoCard : Claim7 := { stood := { row := bookReplaysUptoRow, standIns := [], harness := (true, "fa3e7190b945148e6bada08059a5bf2c69f80129c1117abb93ecc85536e256c4"), looks := true }, kinds := [], alts := [], laidByText := true, laidKinds := [.data, .data, .data, .data, .sentinel, .sentinel, .pinned], laidTests := true, laidLooks := .later }
def BookReplaysUptoCardSaid : Prop := Claim7.holds Tryz.pinned (.plain (OpenSpec.upto bookReplaysSpec)) bookReplaysUptoCard

/-- THE SECOND FORM's CARD OF 'isatislaw12.BookStands'. -/
def bookStandsUptoCard : Claim7 := { stood := { row := bookStandsUptoRow, standIns := [], harness := (true, "fa3e7190b945148e6bada08059a5bf2c69f80129c1117abb93ecc85536e256c4"), looks := true }, kinds := [], alts := [], laidByText := true, laidKinds := [.data, .data, .data, .data, .sentinel, .sentinel, .pinned], laidTests := true, laidLooks := .later }
def BookStandsUptoCardSaid : Prop := Claim7.holds Tryz.pinned (.plain (OpenSpec.upto bookStandsSpec)) bookStandsUptoCard

/-- THE SECOND FORM's CARD OF 'isatislaw12.BookParts'. -/
def bookPartsUptoCard : Claim7 := { stood := { row := bookPartsUptoRow, standIns := [], harness := (true, "fa3e7190b945148e6bada08059a5bf2c69f80129c1117abb93ecc85536e256c4"), looks := true }, kinds := [], alts := [], laidByText := true, laidKinds := [.data, .data, .data, .data, .sentinel, .sentinel, .pinned], laidTests := true, laidLooks := .later }
def BookPartsUptoCardSaid : Prop := Claim7.holds Tryz.pinned (.plain (OpenSpec.upto bookPartsSpec)) bookPartsUptoCard

/-- THE SECOND FORM's CARD OF 'isatislaw12.BookUndone'. -/
def bookUndoneUptoCard : Claim7 := { stood := { row := bookUndoneUptoRow, standIns := [], harness := (true, "fa3e7190b945148e6bada08059a5bf2c69f80129c1117abb93ecc85536e256c4"), looks := true }, kinds := [], alts := [], laidByText := true, laidKinds := [.data, .data, .data, .data, .sentinel, .sentinel, .pinned], laidTests := true, laidLooks := .later }
def BookUndoneUptoCardSaid : Prop := Claim7.holds Tryz.pinned (.plain (OpenSpec.upto bookUndoneSpec)) bookUndoneUptoCard

/-- THE SECOND FORM's CARD OF 'isatislaw12.BookAgain'. -/
def bookAgainUptoCard : Claim7 := { stood := { row := bookAgainUptoRow, standIns := [], harness := (true, "fa3e7190b945148e6bada08059a5bf2c69f80129c1117abb93ecc85536e256c4"), looks := true }, kinds := [], alts := [], laidByText := true, laidKinds := [.data, .data, .data, .data, .sentinel, .sentinel, .pinned], laidTests := true, laidLooks := .later }
def BookAgainUptoCardSaid : Prop := Claim7.holds Tryz.pinned (.plain (OpenSpec.upto bookAgainSpec)) bookAgainUptoCard
end Rows
end Go.Proofs.YthbpmepjmebolaaGreatDoor
