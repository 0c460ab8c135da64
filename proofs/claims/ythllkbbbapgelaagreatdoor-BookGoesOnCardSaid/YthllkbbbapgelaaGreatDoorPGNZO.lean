/-
  BookGoesOn: the closed facts of its row together.
-/
import Derived.Test.YthllkbbbapgelaaGreatDoorPGNZA
import Derived.Test.YthllkbbbapgelaaGreatDoorPGNZB
import Derived.Test.YthllkbbbapgelaaGreatDoorPGNZC
import Derived.Test.YthllkbbbapgelaaGreatDoorPGNZD
import Derived.Test.YthllkbbbapgelaaGreatDoorPGNZE
import Derived.Test.YthllkbbbapgelaaGreatDoorPGNZF
import Derived.Test.YthllkbbbapgelaaGreatDoorPGNZG
import Derived.Test.YthllkbbbapgelaaGreatDoorPGNZH
import Derived.Test.YthllkbbbapgelaaGreatDoorPGNZI
import Derived.Test.YthllkbbbapgelaaGreatDoorPGNZJ
import Derived.Test.YthllkbbbapgelaaGreatDoorPGNZK
namespace Go.Proofs.YthllkbbbapgelaaGreatDoor.bookGoesOn
open Go
set_option maxRecDepth 100000 in
theorem joined : joinedFacts Tryz.prog 7 Tryz.f7 Rows.bookGoesOnSpec Rows.bookGoesOnRow = true := by
  unfold joinedFacts
  rw [Ra, Ib, Nl, XJ, XL, UC, aaq, ag3, XK, XH, XI]
  kernel_rfl
end Go.Proofs.YthllkbbbapgelaaGreatDoor.bookGoesOn
