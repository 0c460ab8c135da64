/-
  BookAgain: a closed fact of its card.
-/
import Derived.Test.YthbpmepjmebolaaGreatDoorRows
import Derived.SevenTiedAt
import Derived.KernelRfl
namespace Go.Proofs.YthbpmepjmebolaaGreatDoor.bookAgain
open Go
set_option maxRecDepth 100000
theorem al4 : Rows.bookAgainRow.wfByText (OpenSpec.ofChange Rows.bookAgainSpec) = true := by kernel_rfl
end Go.Proofs.YthbpmepjmebolaaGreatDoor.bookAgain
