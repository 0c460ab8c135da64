/-
  BookPlace: a closed fact of its row.
-/
import Derived.Test.YthllkbbbapgelaaGreatDoorRows
import Derived.JoinedOf
import Derived.KernelRfl
namespace Go.Proofs.YthllkbbbapgelaaGreatDoor.bookPlace
open Go
set_option maxRecDepth 100000
theorem ad6 : (Rows.bookPlaceRow.wf (OpenSpec.ofChange Rows.bookPlaceSpec) && laidOutB Tryz.prog) = true := by kernel_rfl
end Go.Proofs.YthllkbbbapgelaaGreatDoor.bookPlace
