/-
  TopNoted: a closed fact of its card.
-/
import Derived.Test.YtabpkkbiioihaaaGreatDoorRows
import Derived.SevenTiedAt
import Derived.KernelRfl
namespace Go.Proofs.YtabpkkbiioihaaaGreatDoor.topNoted
open Go
set_option maxRecDepth 100000
theorem Zo : false = Rows.topNotedRow.goesBy Tryz.pinned.checked.prog := by kernel_rfl
end Go.Proofs.YtabpkkbiioihaaaGreatDoor.topNoted
