/-
  The statement BookStands: whatever the lines, the Go function BookStands returns true: after the lines the state stands, by the packages themselves. The arguments read as they did. The card: the listed variables are tied to the program's text.
-/
import Derived.Test.YthbpmepjmebolaaGreatDoorRows
import Derived.Test.YthbpmepjmebolaaGreatDoorCards
import Derived.Test.YthbpmepjmebolaaGreatDoorTie
import Derived.Test.YthbpmepjmebolaaGreatDoorPSKNSO
import Derived.Test.YthbpmepjmebolaaGreatDoorPSNSL
import Derived.Test.YthbpmepjmebolaaGreatDoorPSNSM
import Derived.Test.YthbpmepjmebolaaGreatDoorPSNSN
import Derived.Test.YthbpmepjmebolaaGreatDoorPSNSP
import Derived.ProofKit
import Derived.OpenShut
import Derived.SevenTiedAt
namespace Go.Proofs.YthbpmepjmebolaaGreatDoor.bookStands
open Go Go.ChangeShapes Go.WideShapes Go.ChangeAt Go.RowKit Go.Proofs.YthbpmepjmebolaaGreatDoor.Bk

theorem proved : Rows.BookStandsCardSaid :=
  Claim7.holds_tied_plain_at .later [] [.data, .data, .data, .data, .sentinel, .sentinel, .pinned] true (true, "fa3e7190b945148e6bada08059a5bf2c69f80129c1117abb93ecc85536e256c4") true
    over (fun _ h => by cases h) akl (fun _ h => by cases h) bookStands_row_tie rfl ⟨rfl, rfl⟩ ael rfl
    (fun f fn hf hfn => by
      obtain rfl : f = 4 := Option.some.inj ((show Tryz.prog.funcNamed Rows.bookStandsRow.func = some 4 by kernel_rfl).symm.trans hf) |>.symm
      obtain rfl : fn = Tryz.f4 := (Option.some.inj (Tryz.func4.symm.trans hfn)).symm
      exact ⟨abX, fun j t ht => by
        rw [Tryz.params4] at ht
        have hm : t ∈ [22] := by simpa using Array.mem_of_getElem? ht
        have hall : ([22].all fun u => !Tryz.prog.wantsStandIn u) = true := by kernel_rfl
        exact (show Tryz.prog.wantsStandIn t = false by simpa using List.all_eq_true.1 hall t hm)⟩)
    aem
end Go.Proofs.YthbpmepjmebolaaGreatDoor.bookStands
