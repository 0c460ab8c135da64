/-
  BookAgain: a closed fact of its row.
-/
import Derived.Test.YthbpmepjmebolaaGreatDoorRows
import Derived.JoinedOf
import Derived.KernelRfl
namespace Go.Proofs.YthbpmepjmebolaaGreatDoor.bookAgain
open Go
set_option maxRecDepth 100000
theorem Tz : (Rows.bookAgainRow.recurses == Tryz.prog.recurses 7) = true := by kernel_rfl
end Go.Proofs.YthbpmepjmebolaaGreatDoor.bookAgain
