/-
  The statement BookReplays: whatever the lines, the Go function BookReplays returns true: the accepted lines alone make the same state, and all of them are accepted; so do the same lines once more. The arguments read as they did. The card: the listed variables are tied to the program's text.
-/
import Derived.Test.YthbpmepjmebolaaGreatDoorRows
import Derived.Test.YthbpmepjmebolaaGreatDoorCards
import Derived.Test.YthbpmepjmebolaaGreatDoorTie
import Derived.Test.YthbpmepjmebolaaGreatDoorPRKNRO
import Derived.Test.YthbpmepjmebolaaGreatDoorPRNRL
import Derived.Test.YthbpmepjmebolaaGreatDoorPRNRM
import Derived.Test.YthbpmepjmebolaaGreatDoorPRNRN
import Derived.Test.YthbpmepjmebolaaGreatDoorPRNRP
import Derived.ProofKit
import Derived.OpenShut
import Derived.SevenTiedAt
namespace Go.Proofs.YthbpmepjmebolaaGreatDoor.bookReplays
open Go Go.ChangeShapes Go.WideShapes Go.ChangeAt Go.RowKit Go.Proofs.YthbpmepjmebolaaGreatDoor.Bk

theorem proved : Rows.BookReplaysCardSaid :=
  Claim7.holds_tied_plain_at .later [] [.data, .data, .data, .data, .sentinel, .sentinel, .pinned] true (true, "fa3e7190b945148e6bada08059a5bf2c69f80129c1117abb93ecc85536e256c4") true
    over (fun _ h => by cases h) afj (fun _ h => by cases h) bookReplays_row_tie rfl ⟨rfl, rfl⟩ UF rfl
    (fun f fn hf hfn => by
      obtain rfl : f = 3 := Option.some.inj ((show Tryz.prog.funcNamed Rows.bookReplaysRow.func = some 3 by kernel_rfl).symm.trans hf) |>.symm
      obtain rfl : fn = Tryz.f3 := (Option.some.inj (Tryz.func3.symm.trans hfn)).symm
      exact ⟨NC, fun j t ht => by
        rw [Tryz.params3] at ht
        have hm : t ∈ [22] := by simpa using Array.mem_of_getElem? ht
        have hall : ([22].all fun u => !Tryz.prog.wantsStandIn u) = true := by kernel_rfl
        exact (show Tryz.prog.wantsStandIn t = false by simpa using List.all_eq_true.1 hall t hm)⟩)
    UG
end Go.Proofs.YthbpmepjmebolaaGreatDoor.bookReplays
