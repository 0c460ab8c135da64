/-
  BookParts: a closed fact of its card.
-/
import Derived.Test.YthbpmepjmebolaaGreatDoorRows
import Derived.SevenTiedAt
import Derived.KernelRfl
namespace Go.Proofs.YthbpmepjmebolaaGreatDoor.bookParts
open Go
set_option maxRecDepth 100000
theorem afj : Rows.bookPartsRow.wfByText (OpenSpec.ofChange Rows.bookPartsSpec) = true := by kernel_rfl
end Go.Proofs.YthbpmepjmebolaaGreatDoor.bookParts
