/-
  BookGoesOn: a closed fact of its row.
-/
import Derived.Test.YthllkbbbapgelaaGreatDoorRows
import Derived.JoinedOf
import Derived.KernelRfl
namespace Go.Proofs.YthllkbbbapgelaaGreatDoor.bookGoesOn
open Go
set_option maxRecDepth 100000
theorem Nl : (Rows.bookGoesOnRow.recurses == Tryz.prog.recurses 7) = true := by kernel_rfl
end Go.Proofs.YthllkbbbapgelaaGreatDoor.bookGoesOn
