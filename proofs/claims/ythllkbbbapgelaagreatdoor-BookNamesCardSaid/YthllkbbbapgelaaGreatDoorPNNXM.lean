/-
  BookNames: a closed fact of its card.
-/
import Derived.Test.YthllkbbbapgelaaGreatDoorRows
import Derived.SevenTiedAt
import Derived.KernelRfl
namespace Go.Proofs.YthllkbbbapgelaaGreatDoor.bookNames
open Go
set_option maxRecDepth 100000
theorem acR : Tryz.pinned.checked.prog.mainIs = some (true, ("ffbbf74961d03735db5f46d912491eecab1a6edfba7f60828be3982103a41843" : String).toList) := by kernel_rfl
end Go.Proofs.YthllkbbbapgelaaGreatDoor.bookNames
