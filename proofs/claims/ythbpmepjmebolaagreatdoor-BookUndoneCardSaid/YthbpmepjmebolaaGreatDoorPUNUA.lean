/-
  BookUndone: a closed fact of its row.
-/
import Derived.Test.YthbpmepjmebolaaGreatDoorRows
import Derived.JoinedOf
import Derived.KernelRfl
namespace Go.Proofs.YthbpmepjmebolaaGreatDoor.bookUndone
open Go
set_option maxRecDepth 100000
theorem WZ : (Rows.bookUndoneRow.inPlace == Tryz.prog.inPlace 6) = true := by kernel_rfl
end Go.Proofs.YthbpmepjmebolaaGreatDoor.bookUndone
