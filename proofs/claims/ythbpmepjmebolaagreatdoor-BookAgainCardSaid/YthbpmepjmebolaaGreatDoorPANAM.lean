/-
  BookAgain: a closed fact of its card.
-/
import Derived.Test.YthbpmepjmebolaaGreatDoorRows
import Derived.SevenTiedAt
import Derived.KernelRfl
namespace Go.Proofs.YthbpmepjmebolaaGreatDoor.bookAgain
open Go
set_option maxRecDepth 100000
theorem afC : Tryz.pinned.checked.prog.mainIs = some (true, ("fa3e7190b945148e6bada08059a5bf2c69f80129c1117abb93ecc85536e256c4" : String).toList) := by kernel_rfl
end Go.Proofs.YthbpmepjmebolaaGreatDoor.bookAgain
