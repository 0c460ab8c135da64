/-
  BookGoesOn: a closed fact of its row.
-/
import Derived.Test.YthllkbbbapgelaaGreatDoorRows
import Derived.JoinedOf
import Derived.KernelRfl
namespace Go.Proofs.YthllkbbbapgelaaGreatDoor.bookGoesOn
open Go
set_option maxRecDepth 100000
theorem aaq : (Tryz.prog.make == some Rows.bookGoesOnRow.make) = true := by kernel_rfl
end Go.Proofs.YthllkbbbapgelaaGreatDoor.bookGoesOn
