/-
  BookPlace: a closed fact of its card.
-/
import Derived.Test.YthllkbbbapgelaaGreatDoorRows
import Derived.SevenTiedAt
import Derived.KernelRfl
namespace Go.Proofs.YthllkbbbapgelaaGreatDoor.bookPlace
open Go
set_option maxRecDepth 100000
theorem aeV : Rows.bookPlaceRow.wfByText (OpenSpec.ofChange Rows.bookPlaceSpec) = true := by kernel_rfl
end Go.Proofs.YthllkbbbapgelaaGreatDoor.bookPlace
