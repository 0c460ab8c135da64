/-
  The statement BookNames: the document's examples of layer 12, and the errors: what Play, Owed, Turnings, Report, Write, Recover and Resume answer there is as the document says; there are no arguments, whatever the start. The arguments read as they did. The card: the listed variables are tied to the program's text.
-/
import Derived.Test.YthllkbbbapgelaaGreatDoorRows
import Derived.Test.YthllkbbbapgelaaGreatDoorCards
import Derived.Test.YthllkbbbapgelaaGreatDoorTie
import Derived.Test.YthllkbbbapgelaaGreatDoorPNKNXO
import Derived.Test.YthllkbbbapgelaaGreatDoorPNNXL
import Derived.Test.YthllkbbbapgelaaGreatDoorPNNXM
import Derived.Test.YthllkbbbapgelaaGreatDoorPNNXN
import Derived.Test.YthllkbbbapgelaaGreatDoorPNNXP
import Derived.ProofKit
import Derived.OpenShut
import Derived.SevenTiedAt
open Go.Proofs.Z Go.Proofs.Z.Bk
namespace Go.Proofs.YthllkbbbapgelaaGreatDoor.bookNames
open Go Go.ChangeShapes Go.WideShapes Go.ChangeAt Go.RowKit Go.Proofs.YthllkbbbapgelaaGreatDoor.Bk

theorem proved : Rows.BookNamesCardSaid :=
  Claim7.holds_tied_plain_at .later [] [.data, .data, .data, .data, .sentinel, .sentinel, .pinned] true (true, "ffbbf74961d03735db5f46d912491eecab1a6edfba7f60828be3982103a41843") true
    over (fun _ h => by cases h) akk (fun _ h => by cases h) bookNames_row_tie rfl ⟨rfl, rfl⟩ acR rfl
    (fun f fn hf hfn => by
      obtain rfl : f = 6 := Option.some.inj ((show Tryz.prog.funcNamed Rows.bookNamesRow.func = some 6 by kernel_rfl).symm.trans hf) |>.symm
      obtain rfl : fn = Tryz.f6 := (Option.some.inj (Tryz.func6.symm.trans hfn)).symm
      exact ⟨ZX, fun j t ht => by
        rw [Tryz.params6] at ht
        have hm : t ∈ [] := by simpa using Array.mem_of_getElem? ht
        have hall : ([].all fun u => !Tryz.prog.wantsStandIn u) = true := by kernel_rfl
        exact (show Tryz.prog.wantsStandIn t = false by simpa using List.all_eq_true.1 hall t hm)⟩)
    acS
end Go.Proofs.YthllkbbbapgelaaGreatDoor.bookNames
