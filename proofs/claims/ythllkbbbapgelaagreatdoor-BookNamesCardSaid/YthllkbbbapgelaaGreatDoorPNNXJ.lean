/-
  BookNames: a closed fact of its row.
-/
import Derived.Test.YthllkbbbapgelaaGreatDoorRows
import Derived.JoinedOf
import Derived.KernelRfl
namespace Go.Proofs.YthllkbbbapgelaaGreatDoor.bookNames
open Go
set_option maxRecDepth 100000
theorem Y5 : (mapsRowed Tryz.prog) = true := by kernel_rfl
end Go.Proofs.YthllkbbbapgelaaGreatDoor.bookNames
