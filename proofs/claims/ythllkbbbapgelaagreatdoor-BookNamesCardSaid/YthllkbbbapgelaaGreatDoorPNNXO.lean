/-
  BookNames: the closed facts of its row together.
-/
import Derived.Test.YthllkbbbapgelaaGreatDoorPNNXA
import Derived.Test.YthllkbbbapgelaaGreatDoorPNNXB
import Derived.Test.YthllkbbbapgelaaGreatDoorPNNXC
import Derived.Test.YthllkbbbapgelaaGreatDoorPNNXD
import Derived.Test.YthllkbbbapgelaaGreatDoorPNNXE
import Derived.Test.YthllkbbbapgelaaGreatDoorPNNXF
import Derived.Test.YthllkbbbapgelaaGreatDoorPNNXG
import Derived.Test.YthllkbbbapgelaaGreatDoorPNNXH
import Derived.Test.YthllkbbbapgelaaGreatDoorPNNXI
import Derived.Test.YthllkbbbapgelaaGreatDoorPNNXJ
import Derived.Test.YthllkbbbapgelaaGreatDoorPNNXK
namespace Go.Proofs.YthllkbbbapgelaaGreatDoor.bookNames
open Go
set_option maxRecDepth 100000 in
theorem joined : joinedFacts Tryz.prog 6 Tryz.f6 Rows.bookNamesSpec Rows.bookNamesRow = true := by
  unfold joinedFacts
  rw [R9, IY, Oa, Y7, Y9, VC, abG, aiG, Y8, Y5, Y6]
  kernel_rfl
end Go.Proofs.YthllkbbbapgelaaGreatDoor.bookNames
