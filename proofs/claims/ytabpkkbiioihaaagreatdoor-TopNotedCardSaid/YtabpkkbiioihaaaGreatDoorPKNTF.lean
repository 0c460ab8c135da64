/-
  TopNoted: a closed fact of its row.
-/
import Derived.Test.YtabpkkbiioihaaaGreatDoorRows
import Derived.JoinedOf
import Derived.KernelRfl
namespace Go.Proofs.YtabpkkbiioihaaaGreatDoor.topNoted
open Go
set_option maxRecDepth 100000
theorem SA : (Rows.topNotedRow.lifted == Tryz.prog.liftsFinal) = true := by kernel_rfl
end Go.Proofs.YtabpkkbiioihaaaGreatDoor.topNoted
