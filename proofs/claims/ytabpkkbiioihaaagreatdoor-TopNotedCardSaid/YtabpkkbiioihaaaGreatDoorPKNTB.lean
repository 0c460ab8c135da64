/-
  TopNoted: a closed fact of its row.
-/
import Derived.Test.YtabpkkbiioihaaaGreatDoorRows
import Derived.JoinedOf
import Derived.KernelRfl
namespace Go.Proofs.YtabpkkbiioihaaaGreatDoor.topNoted
open Go
set_option maxRecDepth 100000
theorem Ey : (Rows.topNotedRow.unfollowed == Tryz.prog.unfollowed 3) = true := by kernel_rfl
end Go.Proofs.YtabpkkbiioihaaaGreatDoor.topNoted
