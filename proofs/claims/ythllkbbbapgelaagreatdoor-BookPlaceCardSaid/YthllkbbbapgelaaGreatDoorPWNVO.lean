/-
  BookPlace: the closed facts of its row together.
-/
import Derived.Test.YthllkbbbapgelaaGreatDoorPWNVA
import Derived.Test.YthllkbbbapgelaaGreatDoorPWNVB
import Derived.Test.YthllkbbbapgelaaGreatDoorPWNVC
import Derived.Test.YthllkbbbapgelaaGreatDoorPWNVD
import Derived.Test.YthllkbbbapgelaaGreatDoorPWNVE
import Derived.Test.YthllkbbbapgelaaGreatDoorPWNVF
import Derived.Test.YthllkbbbapgelaaGreatDoorPWNVG
import Derived.Test.YthllkbbbapgelaaGreatDoorPWNVH
import Derived.Test.YthllkbbbapgelaaGreatDoorPWNVI
import Derived.Test.YthllkbbbapgelaaGreatDoorPWNVJ
import Derived.Test.YthllkbbbapgelaaGreatDoorPWNVK
namespace Go.Proofs.YthllkbbbapgelaaGreatDoor.bookPlace
open Go
set_option maxRecDepth 100000 in
theorem joined : joinedFacts Tryz.prog 5 Tryz.f5 Rows.bookPlaceSpec Rows.bookPlaceRow = true := by
  unfold joinedFacts
  rw [Dc, wM, Af, LU, LW, GN, Sl, ad6, LV, LP, LQ]
  kernel_rfl
end Go.Proofs.YthllkbbbapgelaaGreatDoor.bookPlace
