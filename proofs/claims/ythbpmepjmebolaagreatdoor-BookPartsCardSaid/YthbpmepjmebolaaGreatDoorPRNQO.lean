/-
  BookParts: the closed facts of its row together.
-/
import Derived.Test.YthbpmepjmebolaaGreatDoorPRNQA
import Derived.Test.YthbpmepjmebolaaGreatDoorPRNQB
import Derived.Test.YthbpmepjmebolaaGreatDoorPRNQC
import Derived.Test.YthbpmepjmebolaaGreatDoorPRNQD
import Derived.Test.YthbpmepjmebolaaGreatDoorPRNQE
import Derived.Test.YthbpmepjmebolaaGreatDoorPRNQF
import Derived.Test.YthbpmepjmebolaaGreatDoorPRNQG
import Derived.Test.YthbpmepjmebolaaGreatDoorPRNQH
import Derived.Test.YthbpmepjmebolaaGreatDoorPRNQI
import Derived.Test.YthbpmepjmebolaaGreatDoorPRNQJ
import Derived.Test.YthbpmepjmebolaaGreatDoorPRNQK
namespace Go.Proofs.YthbpmepjmebolaaGreatDoor.bookParts
open Go
set_option maxRecDepth 100000 in
theorem joined : joinedFacts Tryz.prog 5 Tryz.f5 Rows.bookPartsSpec Rows.bookPartsRow = true := by
  unfold joinedFacts
  rw [Dx, wX, Ar, MN, MP, G8, TC, aeq, MO, ML, MM]
  kernel_rfl
end Go.Proofs.YthbpmepjmebolaaGreatDoor.bookParts
