/-
  BookWrites: a closed fact of its row.
-/
import Derived.Test.YthllkbbbapgelaaGreatDoorRows
import Derived.JoinedOf
import Derived.KernelRfl
namespace Go.Proofs.YthllkbbbapgelaaGreatDoor.bookWrites
open Go
set_option maxRecDepth 100000
theorem Af : (Rows.bookWritesRow.recurses == Tryz.prog.recurses 3) = true := by kernel_rfl
end Go.Proofs.YthllkbbbapgelaaGreatDoor.bookWrites
