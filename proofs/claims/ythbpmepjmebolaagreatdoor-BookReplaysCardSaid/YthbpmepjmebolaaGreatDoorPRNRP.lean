/-
  BookReplays: a closed fact of its card.
-/
import Derived.Test.YthbpmepjmebolaaGreatDoorRows
import Derived.SevenTiedAt
import Derived.KernelRfl
namespace Go.Proofs.YthbpmepjmebolaaGreatDoor.bookReplays
open Go
set_option maxRecDepth 100000
theorem UG : false = Rows.bookReplaysRow.goesBy Tryz.pinned.checked.prog := by kernel_rfl
end Go.Proofs.YthbpmepjmebolaaGreatDoor.bookReplays
