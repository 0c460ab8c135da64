/-
  The statement BookParts: whatever the lines and one more line, the Go function BookParts returns true: a line changes only the part that it is about; a refused line changes nothing. The arguments read as they did. The card: the listed variables are tied to the program's text.
-/
import Derived.Test.YthbpmepjmebolaaGreatDoorRows
import Derived.Test.YthbpmepjmebolaaGreatDoorCards
import Derived.Test.YthbpmepjmebolaaGreatDoorTie
import Derived.Test.YthbpmepjmebolaaGreatDoorPRKNQO
import Derived.Test.YthbpmepjmebolaaGreatDoorPRNQL
import Derived.Test.YthbpmepjmebolaaGreatDoorPRNQM
import Derived.Test.YthbpmepjmebolaaGreatDoorPRNQN
import Derived.Test.YthbpmepjmebolaaGreatDoorPRNQP
import Derived.ProofKit
import Derived.OpenShut
import Derived.SevenTiedAt
namespace Go.Proofs.YthbpmepjmebolaaGreatDoor.bookParts
open Go Go.ChangeShapes Go.WideShapes Go.ChangeAt Go.RowKit Go.Proofs.YthbpmepjmebolaaGreatDoor.Bk

theorem proved : Rows.BookPartsCardSaid :=
  Claim7.holds_tied_plain_at .later [] [.data, .data, .data, .data, .sentinel, .sentinel, .pinned] true (true, "fa3e7190b945148e6bada08059a5bf2c69f80129c1117abb93ecc85536e256c4") true
    over (fun _ h => by cases h) afj (fun _ h => by cases h) bookParts_row_tie rfl ⟨rfl, rfl⟩ UF rfl
    (fun f fn hf hfn => by
      obtain rfl : f = 5 := Option.some.inj ((show Tryz.prog.funcNamed Rows.bookPartsRow.func = some 5 by kernel_rfl).symm.trans hf) |>.symm
      obtain rfl : fn = Tryz.f5 := (Option.some.inj (Tryz.func5.symm.trans hfn)).symm
      exact ⟨NC, fun j t ht => by
        rw [Tryz.params5] at ht
        have hm : t ∈ [22, 9] := by simpa using Array.mem_of_getElem? ht
        have hall : ([22, 9].all fun u => !Tryz.prog.wantsStandIn u) = true := by kernel_rfl
        exact (show Tryz.prog.wantsStandIn t = false by simpa using List.all_eq_true.1 hall t hm)⟩)
    UG
end Go.Proofs.YthbpmepjmebolaaGreatDoor.bookParts
