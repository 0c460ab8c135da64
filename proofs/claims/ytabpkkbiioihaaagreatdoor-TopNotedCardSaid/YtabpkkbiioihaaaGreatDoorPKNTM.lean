/-
  TopNoted: a closed fact of its card.
-/
import Derived.Test.YtabpkkbiioihaaaGreatDoorRows
import Derived.SevenTiedAt
import Derived.KernelRfl
namespace Go.Proofs.YtabpkkbiioihaaaGreatDoor.topNoted
open Go
set_option maxRecDepth 100000
theorem Zn : Tryz.pinned.checked.prog.mainIs = some (true, ("634ba0ff8789d11f5b4bb8db74d6b87c0ead9740176e006a46d1e903b36aed8e" : String).toList) := by kernel_rfl
end Go.Proofs.YtabpkkbiioihaaaGreatDoor.topNoted
