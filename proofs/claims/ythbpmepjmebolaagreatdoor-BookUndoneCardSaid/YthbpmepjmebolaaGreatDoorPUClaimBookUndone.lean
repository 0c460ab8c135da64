/-
  The statement BookUndone: whatever the lines and one more line, the Go function BookUndone returns true: what is accepted and removed leaves the state as it was. The arguments read as they did. The card: the listed variables are tied to the program's text.
-/
import Derived.Test.YthbpmepjmebolaaGreatDoorRows
import Derived.Test.YthbpmepjmebolaaGreatDoorCards
import Derived.Test.YthbpmepjmebolaaGreatDoorTie
import Derived.Test.YthbpmepjmebolaaGreatDoorPUKNUO
import Derived.Test.YthbpmepjmebolaaGreatDoorPUNUL
import Derived.Test.YthbpmepjmebolaaGreatDoorPUNUM
import Derived.Test.YthbpmepjmebolaaGreatDoorPUNUN
import Derived.Test.YthbpmepjmebolaaGreatDoorPUNUP
import Derived.ProofKit
import Derived.OpenShut
import Derived.SevenTiedAt
namespace Go.Proofs.YthbpmepjmebolaaGreatDoor.bookUndone
open Go Go.ChangeShapes Go.WideShapes Go.ChangeAt Go.RowKit Go.Proofs.YthbpmepjmebolaaGreatDoor.Bk

theorem proved : Rows.BookUndoneCardSaid :=
  Claim7.holds_tied_plain_at .later [] [.data, .data, .data, .data, .sentinel, .sentinel, .pinned] true (true, "fa3e7190b945148e6bada08059a5bf2c69f80129c1117abb93ecc85536e256c4") true
    over (fun _ h => by cases h) alR (fun _ h => by cases h) bookUndone_row_tie rfl ⟨rfl, rfl⟩ afg rfl
    (fun f fn hf hfn => by
      obtain rfl : f = 6 := Option.some.inj ((show Tryz.prog.funcNamed Rows.bookUndoneRow.func = some 6 by kernel_rfl).symm.trans hf) |>.symm
      obtain rfl : fn = Tryz.f6 := (Option.some.inj (Tryz.func6.symm.trans hfn)).symm
      exact ⟨acV, fun j t ht => by
        rw [Tryz.params6] at ht
        have hm : t ∈ [22, 9] := by simpa using Array.mem_of_getElem? ht
        have hall : ([22, 9].all fun u => !Tryz.prog.wantsStandIn u) = true := by kernel_rfl
        exact (show Tryz.prog.wantsStandIn t = false by simpa using List.all_eq_true.1 hall t hm)⟩)
    afh
end Go.Proofs.YthbpmepjmebolaaGreatDoor.bookUndone
