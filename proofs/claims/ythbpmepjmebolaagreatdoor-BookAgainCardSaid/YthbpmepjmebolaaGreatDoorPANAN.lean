/-
  BookAgain: a closed fact of its card.
-/
import Derived.Test.YthbpmepjmebolaaGreatDoorRows
import Derived.SevenTiedAt
import Derived.KernelRfl
namespace Go.Proofs.YthbpmepjmebolaaGreatDoor.bookAgain
open Go
set_option maxRecDepth 100000
theorem adl : true = Tryz.prog.looks [] := by kernel_rfl
end Go.Proofs.YthbpmepjmebolaaGreatDoor.bookAgain
