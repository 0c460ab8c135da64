/-
  BookAgain: the closed facts of its row together.
-/
import Derived.Test.YthbpmepjmebolaaGreatDoorPANAA
import Derived.Test.YthbpmepjmebolaaGreatDoorPANAB
import Derived.Test.YthbpmepjmebolaaGreatDoorPANAC
import Derived.Test.YthbpmepjmebolaaGreatDoorPANAD
import Derived.Test.YthbpmepjmebolaaGreatDoorPANAE
import Derived.Test.YthbpmepjmebolaaGreatDoorPANAF
import Derived.Test.YthbpmepjmebolaaGreatDoorPANAG
import Derived.Test.YthbpmepjmebolaaGreatDoorPANAH
import Derived.Test.YthbpmepjmebolaaGreatDoorPANAI
import Derived.Test.YthbpmepjmebolaaGreatDoorPANAJ
import Derived.Test.YthbpmepjmebolaaGreatDoorPANAK
namespace Go.Proofs.YthbpmepjmebolaaGreatDoor.bookAgain
open Go
set_option maxRecDepth 100000 in
theorem joined : joinedFacts Tryz.prog 7 Tryz.f7 Rows.bookAgainSpec Rows.bookAgainRow = true := by
  unfold joinedFacts
  rw [Xj, ML, Tz, acF, acH, aac, aeH, akr, acG, acD, acE]
  kernel_rfl
end Go.Proofs.YthbpmepjmebolaaGreatDoor.bookAgain
