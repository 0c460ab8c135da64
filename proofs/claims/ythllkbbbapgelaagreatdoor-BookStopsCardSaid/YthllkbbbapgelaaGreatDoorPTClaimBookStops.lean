/-
  The statement BookStops: whatever the lines and where the file is cut off, the Go function BookStops returns true: Recover of a file returns its lines; of the first bytes of a file it returns the records that are whole in them. The arguments read as they did. The card: the listed variables are tied to the program's text.
-/
import Derived.Test.YthllkbbbapgelaaGreatDoorRows
import Derived.Test.YthllkbbbapgelaaGreatDoorCards
import Derived.Test.YthllkbbbapgelaaGreatDoorTie
import Derived.Test.YthllkbbbapgelaaGreatDoorPTKNTO
import Derived.Test.YthllkbbbapgelaaGreatDoorPTNTL
import Derived.Test.YthllkbbbapgelaaGreatDoorPTNTM
import Derived.Test.YthllkbbbapgelaaGreatDoorPTNTN
import Derived.Test.YthllkbbbapgelaaGreatDoorPTNTP
import Derived.ProofKit
import Derived.OpenShut
import Derived.SevenTiedAt
namespace Go.Proofs.YthllkbbbapgelaaGreatDoor.bookStops
open Go Go.ChangeShapes Go.WideShapes Go.ChangeAt Go.RowKit Go.Proofs.YthllkbbbapgelaaGreatDoor.Bk

theorem proved : Rows.BookStopsCardSaid :=
  Claim7.holds_tied_plain_at .later [] [.data, .data, .data, .data, .sentinel, .sentinel, .pinned] true (true, "ffbbf74961d03735db5f46d912491eecab1a6edfba7f60828be3982103a41843") true
    over (fun _ h => by cases h) akH (fun _ h => by cases h) bookStops_row_tie rfl ⟨rfl, rfl⟩ aet rfl
    (fun f fn hf hfn => by
      obtain rfl : f = 4 := Option.some.inj ((show Tryz.prog.funcNamed Rows.bookStopsRow.func = some 4 by kernel_rfl).symm.trans hf) |>.symm
      obtain rfl : fn = Tryz.f4 := (Option.some.inj (Tryz.func4.symm.trans hfn)).symm
      exact ⟨ab7, fun j t ht => by
        rw [Tryz.params4] at ht
        have hm : t ∈ [22, 37] := by simpa using Array.mem_of_getElem? ht
        have hall : ([22, 37].all fun u => !Tryz.prog.wantsStandIn u) = true := by kernel_rfl
        exact (show Tryz.prog.wantsStandIn t = false by simpa using List.all_eq_true.1 hall t hm)⟩)
    aeu
end Go.Proofs.YthllkbbbapgelaaGreatDoor.bookStops
