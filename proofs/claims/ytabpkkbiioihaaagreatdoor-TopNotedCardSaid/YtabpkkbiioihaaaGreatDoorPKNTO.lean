/-
  TopNoted: the closed facts of its row together.
-/
import Derived.Test.YtabpkkbiioihaaaGreatDoorPKNTA
import Derived.Test.YtabpkkbiioihaaaGreatDoorPKNTB
import Derived.Test.YtabpkkbiioihaaaGreatDoorPKNTC
import Derived.Test.YtabpkkbiioihaaaGreatDoorPKNTD
import Derived.Test.YtabpkkbiioihaaaGreatDoorPKNTE
import Derived.Test.YtabpkkbiioihaaaGreatDoorPKNTF
import Derived.Test.YtabpkkbiioihaaaGreatDoorPKNTG
import Derived.Test.YtabpkkbiioihaaaGreatDoorPKNTH
import Derived.Test.YtabpkkbiioihaaaGreatDoorPKNTI
import Derived.Test.YtabpkkbiioihaaaGreatDoorPKNTJ
import Derived.Test.YtabpkkbiioihaaaGreatDoorPKNTK
namespace Go.Proofs.YtabpkkbiioihaaaGreatDoor.topNoted
open Go
set_option maxRecDepth 100000 in
theorem joined : joinedFacts Tryz.prog 3 Tryz.f3 Rows.topNotedSpec Rows.topNotedRow = true := by
  unfold joinedFacts
  rw [OL, Ey, KI, VG, VI, SA, Yn, adX, VH, VE, VF]
  kernel_rfl
end Go.Proofs.YtabpkkbiioihaaaGreatDoor.topNoted
