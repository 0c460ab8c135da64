/-
  BookReplays: a closed fact of its card.
-/
import Derived.Test.YthbpmepjmebolaaGreatDoorRows
import Derived.SevenTiedAt
import Derived.KernelRfl
namespace Go.Proofs.YthbpmepjmebolaaGreatDoor.bookReplays
open Go
set_option maxRecDepth 100000
theorem afj : Rows.bookReplaysRow.wfByText (OpenSpec.ofChange Rows.bookReplaysSpec) = true := by kernel_rfl
end Go.Proofs.YthbpmepjmebolaaGreatDoor.bookReplays
