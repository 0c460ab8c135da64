/-
  The statement BookWrites: whatever the lines and the bytes, the Go function BookWrites returns true: the file of any lines, and what can be read of any bytes, are as the document says, or the error is. The arguments read as they did. The card: the listed variables are tied to the program's text.
-/
import Derived.Test.YthllkbbbapgelaaGreatDoorRows
import Derived.Test.YthllkbbbapgelaaGreatDoorCards
import Derived.Test.YthllkbbbapgelaaGreatDoorTie
import Derived.Test.YthllkbbbapgelaaGreatDoorPWKNYO
import Derived.Test.YthllkbbbapgelaaGreatDoorPWNYL
import Derived.Test.YthllkbbbapgelaaGreatDoorPWNYM
import Derived.Test.YthllkbbbapgelaaGreatDoorPWNYN
import Derived.Test.YthllkbbbapgelaaGreatDoorPWNYP
import Derived.ProofKit
import Derived.OpenShut
import Derived.SevenTiedAt
namespace Go.Proofs.YthllkbbbapgelaaGreatDoor.bookWrites
open Go Go.ChangeShapes Go.WideShapes Go.ChangeAt Go.RowKit Go.Proofs.YthllkbbbapgelaaGreatDoor.Bk

theorem proved : Rows.BookWritesCardSaid :=
  Claim7.holds_tied_plain_at .later [] [.data, .data, .data, .data, .sentinel, .sentinel, .pinned] true (true, "ffbbf74961d03735db5f46d912491eecab1a6edfba7f60828be3982103a41843") true
    over (fun _ h => by cases h) aeV (fun _ h => by cases h) bookWrites_row_tie rfl ⟨rfl, rfl⟩ TN rfl
    (fun f fn hf hfn => by
      obtain rfl : f = 3 := Option.some.inj ((show Tryz.prog.funcNamed Rows.bookWritesRow.func = some 3 by kernel_rfl).symm.trans hf) |>.symm
      obtain rfl : fn = Tryz.f3 := (Option.some.inj (Tryz.func3.symm.trans hfn)).symm
      exact ⟨MR, fun j t ht => by
        rw [Tryz.params3] at ht
        have hm : t ∈ [22, 9] := by simpa using Array.mem_of_getElem? ht
        have hall : ([22, 9].all fun u => !Tryz.prog.wantsStandIn u) = true := by kernel_rfl
        exact (show Tryz.prog.wantsStandIn t = false by simpa using List.all_eq_true.1 hall t hm)⟩)
    TP
end Go.Proofs.YthllkbbbapgelaaGreatDoor.bookWrites
