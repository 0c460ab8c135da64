/-
  The statement BookPlace: whatever the lines and a number, the Go function BookPlace returns true: no record is read at another place of a file than its own; with one record left out, only those before it are read. The arguments read as they did. The card: the listed variables are tied to the program's text.
-/
import Derived.Test.YthllkbbbapgelaaGreatDoorRows
import Derived.Test.YthllkbbbapgelaaGreatDoorCards
import Derived.Test.YthllkbbbapgelaaGreatDoorTie
import Derived.Test.YthllkbbbapgelaaGreatDoorPWKNVO
import Derived.Test.YthllkbbbapgelaaGreatDoorPWNVL
import Derived.Test.YthllkbbbapgelaaGreatDoorPWNVM
import Derived.Test.YthllkbbbapgelaaGreatDoorPWNVN
import Derived.Test.YthllkbbbapgelaaGreatDoorPWNVP
import Derived.ProofKit
import Derived.OpenShut
import Derived.SevenTiedAt
namespace Go.Proofs.YthllkbbbapgelaaGreatDoor.bookPlace
open Go Go.ChangeShapes Go.WideShapes Go.ChangeAt Go.RowKit Go.Proofs.YthllkbbbapgelaaGreatDoor.Bk

theorem proved : Rows.BookPlaceCardSaid :=
  Claim7.holds_tied_plain_at .later [] [.data, .data, .data, .data, .sentinel, .sentinel, .pinned] true (true, "ffbbf74961d03735db5f46d912491eecab1a6edfba7f60828be3982103a41843") true
    over (fun _ h => by cases h) aeV (fun _ h => by cases h) bookPlace_row_tie rfl ⟨rfl, rfl⟩ TN rfl
    (fun f fn hf hfn => by
      obtain rfl : f = 5 := Option.some.inj ((show Tryz.prog.funcNamed Rows.bookPlaceRow.func = some 5 by kernel_rfl).symm.trans hf) |>.symm
      obtain rfl : fn = Tryz.f5 := (Option.some.inj (Tryz.func5.symm.trans hfn)).symm
      exact ⟨MR, fun j t ht => by
        rw [Tryz.params5] at ht
        have hm : t ∈ [22, 5] := by simpa using Array.mem_of_getElem? ht
        have hall : ([22, 5].all fun u => !Tryz.prog.wantsStandIn u) = true := by kernel_rfl
        exact (show Tryz.prog.wantsStandIn t = false by simpa using List.all_eq_true.1 hall t hm)⟩)
    TP
end Go.Proofs.YthllkbbbapgelaaGreatDoor.bookPlace
