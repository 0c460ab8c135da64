/-
  BookUndone: a closed fact of its card.
-/
import Derived.Test.YthbpmepjmebolaaGreatDoorRows
import Derived.SevenTiedAt
import Derived.KernelRfl
namespace Go.Proofs.YthbpmepjmebolaaGreatDoor.bookUndone
open Go
set_option maxRecDepth 100000
theorem alR : Rows.bookUndoneRow.wfByText (OpenSpec.ofChange Rows.bookUndoneSpec) = true := by kernel_rfl
end Go.Proofs.YthbpmepjmebolaaGreatDoor.bookUndone
