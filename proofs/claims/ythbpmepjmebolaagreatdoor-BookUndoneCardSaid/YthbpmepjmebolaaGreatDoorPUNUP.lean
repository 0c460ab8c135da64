/-
  BookUndone: a closed fact of its card.
-/
import Derived.Test.YthbpmepjmebolaaGreatDoorRows
import Derived.SevenTiedAt
import Derived.KernelRfl
namespace Go.Proofs.YthbpmepjmebolaaGreatDoor.bookUndone
open Go
set_option maxRecDepth 100000
theorem afh : false = Rows.bookUndoneRow.goesBy Tryz.pinned.checked.prog := by kernel_rfl
end Go.Proofs.YthbpmepjmebolaaGreatDoor.bookUndone
