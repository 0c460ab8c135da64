/-
  BookReplays: a closed fact of its row.
-/
import Derived.Test.YthbpmepjmebolaaGreatDoorRows
import Derived.JoinedOf
import Derived.KernelRfl
namespace Go.Proofs.YthbpmepjmebolaaGreatDoor.bookReplays
open Go
set_option maxRecDepth 100000
theorem aeq : (Rows.bookReplaysRow.wf (OpenSpec.ofChange Rows.bookReplaysSpec) && laidOutB Tryz.prog) = true := by kernel_rfl
end Go.Proofs.YthbpmepjmebolaaGreatDoor.bookReplays
