/-
  BookReplays: the closed facts of its row together.
-/
import Derived.Test.YthbpmepjmebolaaGreatDoorPRNRA
import Derived.Test.YthbpmepjmebolaaGreatDoorPRNRB
import Derived.Test.YthbpmepjmebolaaGreatDoorPRNRC
import Derived.Test.YthbpmepjmebolaaGreatDoorPRNRD
import Derived.Test.YthbpmepjmebolaaGreatDoorPRNRE
import Derived.Test.YthbpmepjmebolaaGreatDoorPRNRF
import Derived.Test.YthbpmepjmebolaaGreatDoorPRNRG
import Derived.Test.YthbpmepjmebolaaGreatDoorPRNRH
import Derived.Test.YthbpmepjmebolaaGreatDoorPRNRI
import Derived.Test.YthbpmepjmebolaaGreatDoorPRNRJ
import Derived.Test.YthbpmepjmebolaaGreatDoorPRNRK
namespace Go.Proofs.YthbpmepjmebolaaGreatDoor.bookReplays
open Go
set_option maxRecDepth 100000 in
theorem joined : joinedFacts Tryz.prog 3 Tryz.f3 Rows.bookReplaysSpec Rows.bookReplaysRow = true := by
  unfold joinedFacts
  rw [Dx, wX, Ar, MN, MP, G8, TC, aeq, MO, ML, MM]
  kernel_rfl
end Go.Proofs.YthbpmepjmebolaaGreatDoor.bookReplays
