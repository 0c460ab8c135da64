/-
  BookStops: a closed fact of its row.
-/
import Derived.Test.YthllkbbbapgelaaGreatDoorRows
import Derived.JoinedOf
import Derived.KernelRfl
namespace Go.Proofs.YthllkbbbapgelaaGreatDoor.bookStops
open Go
set_option maxRecDepth 100000
theorem Rj : (Rows.bookStopsRow.recurses == Tryz.prog.recurses 4) = true := by kernel_rfl
end Go.Proofs.YthllkbbbapgelaaGreatDoor.bookStops
