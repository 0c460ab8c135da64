/-
  The statement BookAgain: whatever the lines and a number, the Go function BookAgain returns true: if something is written again as it was (Left, a Count, the Rate, the Box, the Start, a Wet, a strength, a weight), the state does not change. The arguments read as they did. The card: the listed variables are tied to the program's text.
-/
import Derived.Test.YthbpmepjmebolaaGreatDoorRows
import Derived.Test.YthbpmepjmebolaaGreatDoorCards
import Derived.Test.YthbpmepjmebolaaGreatDoorTie
import Derived.Test.YthbpmepjmebolaaGreatDoorPAKNAO
import Derived.Test.YthbpmepjmebolaaGreatDoorPANAL
import Derived.Test.YthbpmepjmebolaaGreatDoorPANAM
import Derived.Test.YthbpmepjmebolaaGreatDoorPANAN
import Derived.Test.YthbpmepjmebolaaGreatDoorPANAP
import Derived.ProofKit
import Derived.OpenShut
import Derived.SevenTiedAt
namespace Go.Proofs.YthbpmepjmebolaaGreatDoor.bookAgain
open Go Go.ChangeShapes Go.WideShapes Go.ChangeAt Go.RowKit Go.Proofs.YthbpmepjmebolaaGreatDoor.Bk

theorem proved : Rows.BookAgainCardSaid :=
  Claim7.holds_tied_plain_at .later [] [.data, .data, .data, .data, .sentinel, .sentinel, .pinned] true (true, "fa3e7190b945148e6bada08059a5bf2c69f80129c1117abb93ecc85536e256c4") true
    over (fun _ h => by cases h) al4 (fun _ h => by cases h) bookAgain_row_tie rfl ⟨rfl, rfl⟩ afC rfl
    (fun f fn hf hfn => by
      obtain rfl : f = 7 := Option.some.inj ((show Tryz.prog.funcNamed Rows.bookAgainRow.func = some 7 by kernel_rfl).symm.trans hf) |>.symm
      obtain rfl : fn = Tryz.f7 := (Option.some.inj (Tryz.func7.symm.trans hfn)).symm
      exact ⟨adl, fun j t ht => by
        rw [Tryz.params7] at ht
        have hm : t ∈ [22, 5] := by simpa using Array.mem_of_getElem? ht
        have hall : ([22, 5].all fun u => !Tryz.prog.wantsStandIn u) = true := by kernel_rfl
        exact (show Tryz.prog.wantsStandIn t = false by simpa using List.all_eq_true.1 hall t hm)⟩)
    afD
end Go.Proofs.YthbpmepjmebolaaGreatDoor.bookAgain
