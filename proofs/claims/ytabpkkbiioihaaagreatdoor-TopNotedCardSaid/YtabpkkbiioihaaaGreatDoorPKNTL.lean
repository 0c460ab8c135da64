/-
  TopNoted: a closed fact of its card.
-/
import Derived.Test.YtabpkkbiioihaaaGreatDoorRows
import Derived.SevenTiedAt
import Derived.KernelRfl
namespace Go.Proofs.YtabpkkbiioihaaaGreatDoor.topNoted
open Go
set_option maxRecDepth 100000
theorem afm : Rows.topNotedRow.wfByText (OpenSpec.ofChange Rows.topNotedSpec) = true := by kernel_rfl
end Go.Proofs.YtabpkkbiioihaaaGreatDoor.topNoted
