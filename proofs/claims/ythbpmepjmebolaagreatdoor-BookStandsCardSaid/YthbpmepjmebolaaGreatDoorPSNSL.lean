/-
  BookStands: a closed fact of its card.
-/
import Derived.Test.YthbpmepjmebolaaGreatDoorRows
import Derived.SevenTiedAt
import Derived.KernelRfl
namespace Go.Proofs.YthbpmepjmebolaaGreatDoor.bookStands
open Go
set_option maxRecDepth 100000
theorem akl : Rows.bookStandsRow.wfByText (OpenSpec.ofChange Rows.bookStandsSpec) = true := by kernel_rfl
end Go.Proofs.YthbpmepjmebolaaGreatDoor.bookStands
