/-
  BookGoesOn: a closed fact of its row.
-/
import Derived.Test.YthllkbbbapgelaaGreatDoorRows
import Derived.JoinedOf
import Derived.KernelRfl
namespace Go.Proofs.YthllkbbbapgelaaGreatDoor.bookGoesOn
open Go
set_option maxRecDepth 100000
theorem XI : (Rows.bookGoesOnRow.plainKeys == Tryz.prog.plainKeys) = true := by kernel_rfl
end Go.Proofs.YthllkbbbapgelaaGreatDoor.bookGoesOn
