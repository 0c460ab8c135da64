/-
  BookUndone: the closed facts of its row together.
-/
import Derived.Test.YthbpmepjmebolaaGreatDoorPUNUA
import Derived.Test.YthbpmepjmebolaaGreatDoorPUNUB
import Derived.Test.YthbpmepjmebolaaGreatDoorPUNUC
import Derived.Test.YthbpmepjmebolaaGreatDoorPUNUD
import Derived.Test.YthbpmepjmebolaaGreatDoorPUNUE
import Derived.Test.YthbpmepjmebolaaGreatDoorPUNUF
import Derived.Test.YthbpmepjmebolaaGreatDoorPUNUG
import Derived.Test.YthbpmepjmebolaaGreatDoorPUNUH
import Derived.Test.YthbpmepjmebolaaGreatDoorPUNUI
import Derived.Test.YthbpmepjmebolaaGreatDoorPUNUJ
import Derived.Test.YthbpmepjmebolaaGreatDoorPUNUK
namespace Go.Proofs.YthbpmepjmebolaaGreatDoor.bookUndone
open Go
set_option maxRecDepth 100000 in
theorem joined : joinedFacts Tryz.prog 6 Tryz.f6 Rows.bookUndoneSpec Rows.bookUndoneRow = true := by
  unfold joinedFacts
  rw [WZ, LY, SX, ace, acg, ZV, ael, ake, acf, acb, acd]
  kernel_rfl
end Go.Proofs.YthbpmepjmebolaaGreatDoor.bookUndone
