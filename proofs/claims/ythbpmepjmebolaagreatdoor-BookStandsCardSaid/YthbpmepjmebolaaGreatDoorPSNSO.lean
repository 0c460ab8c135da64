/-
  BookStands: the closed facts of its row together.
-/
import Derived.Test.YthbpmepjmebolaaGreatDoorPSNSA
import Derived.Test.YthbpmepjmebolaaGreatDoorPSNSB
import Derived.Test.YthbpmepjmebolaaGreatDoorPSNSC
import Derived.Test.YthbpmepjmebolaaGreatDoorPSNSD
import Derived.Test.YthbpmepjmebolaaGreatDoorPSNSE
import Derived.Test.YthbpmepjmebolaaGreatDoorPSNSF
import Derived.Test.YthbpmepjmebolaaGreatDoorPSNSG
import Derived.Test.YthbpmepjmebolaaGreatDoorPSNSH
import Derived.Test.YthbpmepjmebolaaGreatDoorPSNSI
import Derived.Test.YthbpmepjmebolaaGreatDoorPSNSJ
import Derived.Test.YthbpmepjmebolaaGreatDoorPSNSK
namespace Go.Proofs.YthbpmepjmebolaaGreatDoor.bookStands
open Go
set_option maxRecDepth 100000 in
theorem joined : joinedFacts Tryz.prog 4 Tryz.f4 Rows.bookStandsSpec Rows.bookStandsRow = true := by
  unfold joinedFacts
  rw [Vw, KF, QY, abg, abj, YT, adr, aiP, abh, abe, abf]
  kernel_rfl
end Go.Proofs.YthbpmepjmebolaaGreatDoor.bookStands
