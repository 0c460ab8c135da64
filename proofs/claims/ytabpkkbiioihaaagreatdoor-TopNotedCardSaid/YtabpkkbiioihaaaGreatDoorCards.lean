/-
  DERIVED. GIVEN WITH THE SEED: THE CARDS: each row of YtabpkkbiioihaaaGreatDoorRows.lean that lists a variable, with what it lists TIED to the program's text (the seventh form; the later family's looks); each row that meets fmt, with fmt's text TOLD by the authors' own Lean function (tested against real Go, not proved from fmt's source: count such statements apart). THE CARD IS WHAT COUNTS. Prove the row's statement (the work); the ties are given (YtabpkkbiioihaaaGreatDoorTie.lean); close each card by the builder's one call (the guide's Derived/Test/ToyasCard.lean, 'card_holds'). Laid BY PROGRAM, IN A SANDBOX (cutbox-door.mjs). By AI agents, Wed Nov 11 2026. No macro, syntax, notation, axiom, sorry.
-/
import Derived.Test.YtabpkkbiioihaaaGreatDoorRows
import GoSem.ClaimSeven
namespace Go.Proofs.YtabpkkbiioihaaaGreatDoor
namespace Rows

/-- THE TIED CARD OF 'isatistop.TopNoted'. -/
def topNotedCard : Claim7 := { stood := { row := topNotedRow, standIns := [], harness := (true, "634ba0ff8789d11f5b4bb8db74d6b87c0ead9740176e006a46d1e903b36aed8e"), looks := true }, kinds := [], alts := [], laidByText := true, laidKinds := [.data, .data, .data, .data, .sentinel, .sentinel, .pinned], laidTests := true, laidLooks := .later }
def TopNotedCardSaid : Prop := Claim7.holds Tryz.pinned (.plain (OpenSpec.ofChange topNotedSpec)) topNotedCard

/-- THE SECOND FORM's CARD OF 'isatistop.TopNoted'. -/
def topNotedUptoCard : Claim7 := { stood := { row := topNotedUptoRow, standIns := [], harness := (true, "634ba0ff8789d11f5b4bb8db74d6b87c0ead9740176e006a46d1e903b36aed8e"), looks := true }, kinds := [], alts := [], laidByText := true, laidKinds := [.data, .data, .data, .data, .sentinel, .sentinel, .pinned], laidTests := true, laidLooks := .later }
def TopNotedUptoCardSaid : Prop := Claim7.holds Tryz.pinned (.plain (OpenSpec.upto topNotedSpec)) topNotedUptoCard
end Rows
end Go.Proofs.YtabpkkbiioihaaaGreatDoor
