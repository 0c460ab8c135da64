/-
  The statement BookGoesOn: whatever the lines and where the file is cut off, the Go function BookGoesOn returns true: Resume of no bytes, with some lines, is the file of the accepted ones; if a file of accepted lines is cut off anywhere, Resume of what is left, with the lines that are not whole any more, makes the same file again. The arguments read as they did. The card: the listed variables are tied to the program's text.
-/
import Derived.Test.YthllkbbbapgelaaGreatDoorRows
import Derived.Test.YthllkbbbapgelaaGreatDoorCards
import Derived.Test.YthllkbbbapgelaaGreatDoorTie
import Derived.Test.YthllkbbbapgelaaGreatDoorPGKNZO
import Derived.Test.YthllkbbbapgelaaGreatDoorPGNZL
import Derived.Test.YthllkbbbapgelaaGreatDoorPGNZM
import Derived.Test.YthllkbbbapgelaaGreatDoorPGNZN
import Derived.Test.YthllkbbbapgelaaGreatDoorPGNZP
import Derived.ProofKit
import Derived.OpenShut
import Derived.SevenTiedAt
open Go.Proofs.Z Go.Proofs.Z.Bk
namespace Go.Proofs.YthllkbbbapgelaaGreatDoor.bookGoesOn
open Go Go.ChangeShapes Go.WideShapes Go.ChangeAt Go.RowKit Go.Proofs.YthllkbbbapgelaaGreatDoor.Bk

theorem proved : Rows.BookGoesOnCardSaid :=
  Claim7.holds_tied_plain_at .later [] [.data, .data, .data, .data, .sentinel, .sentinel, .pinned] true (true, "ffbbf74961d03735db5f46d912491eecab1a6edfba7f60828be3982103a41843") true
    over (fun _ h => by cases h) aiF (fun _ h => by cases h) bookGoesOn_row_tie rfl ⟨rfl, rfl⟩ abC rfl
    (fun f fn hf hfn => by
      obtain rfl : f = 7 := Option.some.inj ((show Tryz.prog.funcNamed Rows.bookGoesOnRow.func = some 7 by kernel_rfl).symm.trans hf) |>.symm
      obtain rfl : fn = Tryz.f7 := (Option.some.inj (Tryz.func7.symm.trans hfn)).symm
      exact ⟨YM, fun j t ht => by
        rw [Tryz.params7] at ht
        have hm : t ∈ [22, 37] := by simpa using Array.mem_of_getElem? ht
        have hall : ([22, 37].all fun u => !Tryz.prog.wantsStandIn u) = true := by kernel_rfl
        exact (show Tryz.prog.wantsStandIn t = false by simpa using List.all_eq_true.1 hall t hm)⟩)
    abD
end Go.Proofs.YthllkbbbapgelaaGreatDoor.bookGoesOn
