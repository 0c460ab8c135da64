/-
  BookStops: the closed facts of its row together.
-/
import Derived.Test.YthllkbbbapgelaaGreatDoorPTNTA
import Derived.Test.YthllkbbbapgelaaGreatDoorPTNTB
import Derived.Test.YthllkbbbapgelaaGreatDoorPTNTC
import Derived.Test.YthllkbbbapgelaaGreatDoorPTNTD
import Derived.Test.YthllkbbbapgelaaGreatDoorPTNTE
import Derived.Test.YthllkbbbapgelaaGreatDoorPTNTF
import Derived.Test.YthllkbbbapgelaaGreatDoorPTNTG
import Derived.Test.YthllkbbbapgelaaGreatDoorPTNTH
import Derived.Test.YthllkbbbapgelaaGreatDoorPTNTI
import Derived.Test.YthllkbbbapgelaaGreatDoorPTNTJ
import Derived.Test.YthllkbbbapgelaaGreatDoorPTNTK
namespace Go.Proofs.YthllkbbbapgelaaGreatDoor.bookStops
open Go
set_option maxRecDepth 100000 in
theorem joined : joinedFacts Tryz.prog 4 Tryz.f4 Rows.bookStopsSpec Rows.bookStopsRow = true := by
  unfold joinedFacts
  rw [VQ, KZ, Rj, abq, abt, Y4, adB, ajh, abr, abo, abp]
  kernel_rfl
end Go.Proofs.YthllkbbbapgelaaGreatDoor.bookStops
