/-
  BookWrites: the closed facts of its row together.
-/
import Derived.Test.YthllkbbbapgelaaGreatDoorPWNYA
import Derived.Test.YthllkbbbapgelaaGreatDoorPWNYB
import Derived.Test.YthllkbbbapgelaaGreatDoorPWNYC
import Derived.Test.YthllkbbbapgelaaGreatDoorPWNYD
import Derived.Test.YthllkbbbapgelaaGreatDoorPWNYE
import Derived.Test.YthllkbbbapgelaaGreatDoorPWNYF
import Derived.Test.YthllkbbbapgelaaGreatDoorPWNYG
import Derived.Test.YthllkbbbapgelaaGreatDoorPWNYH
import Derived.Test.YthllkbbbapgelaaGreatDoorPWNYI
import Derived.Test.YthllkbbbapgelaaGreatDoorPWNYJ
import Derived.Test.YthllkbbbapgelaaGreatDoorPWNYK
namespace Go.Proofs.YthllkbbbapgelaaGreatDoor.bookWrites
open Go
set_option maxRecDepth 100000 in
theorem joined : joinedFacts Tryz.prog 3 Tryz.f3 Rows.bookWritesSpec Rows.bookWritesRow = true := by
  unfold joinedFacts
  rw [Dc, wM, Af, LU, LW, GN, Sl, ad6, LV, LP, LQ]
  kernel_rfl
end Go.Proofs.YthllkbbbapgelaaGreatDoor.bookWrites
