/-
  BookStands: a closed fact of its card.
-/
import Derived.Test.YthbpmepjmebolaaGreatDoorRows
import Derived.SevenTiedAt
import Derived.KernelRfl
namespace Go.Proofs.YthbpmepjmebolaaGreatDoor.bookStands
open Go
set_option maxRecDepth 100000
theorem aem : false = Rows.bookStandsRow.goesBy Tryz.pinned.checked.prog := by kernel_rfl
end Go.Proofs.YthbpmepjmebolaaGreatDoor.bookStands
