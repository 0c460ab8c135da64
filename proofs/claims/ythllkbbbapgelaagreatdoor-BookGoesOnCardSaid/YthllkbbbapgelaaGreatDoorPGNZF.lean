/-
  BookGoesOn: a closed fact of its row.
-/
import Derived.Test.YthllkbbbapgelaaGreatDoorRows
import Derived.JoinedOf
import Derived.KernelRfl
namespace Go.Proofs.YthllkbbbapgelaaGreatDoor.bookGoesOn
open Go
set_option maxRecDepth 100000
theorem UC : (Rows.bookGoesOnRow.lifted == Tryz.prog.liftsFinal) = true := by kernel_rfl
end Go.Proofs.YthllkbbbapgelaaGreatDoor.bookGoesOn
