/-
  BookPlace: a closed fact of its row.
-/
import Derived.Test.YthllkbbbapgelaaGreatDoorRows
import Derived.JoinedOf
import Derived.KernelRfl
namespace Go.Proofs.YthllkbbbapgelaaGreatDoor.bookPlace
open Go
set_option maxRecDepth 100000
theorem Af : (Rows.bookPlaceRow.recurses == Tryz.prog.recurses 5) = true := by kernel_rfl
end Go.Proofs.YthllkbbbapgelaaGreatDoor.bookPlace
