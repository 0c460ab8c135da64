/-
  BookNames: a closed fact of its card.
-/
import Derived.Test.YthllkbbbapgelaaGreatDoorRows
import Derived.SevenTiedAt
import Derived.KernelRfl
namespace Go.Proofs.YthllkbbbapgelaaGreatDoor.bookNames
open Go
set_option maxRecDepth 100000
theorem ZX : true = Tryz.prog.looks [] := by kernel_rfl
end Go.Proofs.YthllkbbbapgelaaGreatDoor.bookNames
