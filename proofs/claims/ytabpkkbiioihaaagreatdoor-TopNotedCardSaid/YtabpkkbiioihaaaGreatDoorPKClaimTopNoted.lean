/-
  The statement TopNoted: whatever the lines and the weeder, the Go function TopNoted returns true. The arguments read as they did. The card: the listed variables are tied to the program's text.
-/
import Derived.Test.YtabpkkbiioihaaaGreatDoorRows
import Derived.Test.YtabpkkbiioihaaaGreatDoorCards
import Derived.Test.YtabpkkbiioihaaaGreatDoorTie
import Derived.Test.YtabpkkbiioihaaaGreatDoorPKKO
import Derived.Test.YtabpkkbiioihaaaGreatDoorPKNTL
import Derived.Test.YtabpkkbiioihaaaGreatDoorPKNTM
import Derived.Test.YtabpkkbiioihaaaGreatDoorPKNTN
import Derived.Test.YtabpkkbiioihaaaGreatDoorPKNTP
import Derived.ProofKit
import Derived.OpenShut
import Derived.SevenTiedAt
namespace Go.Proofs.YtabpkkbiioihaaaGreatDoor.topNoted
open Go Go.ChangeShapes Go.WideShapes Go.ChangeAt Go.RowKit Go.Proofs.YtabpkkbiioihaaaGreatDoor.Bk

theorem proved : Rows.TopNotedCardSaid :=
  Claim7.holds_tied_plain_at .later [] [.data, .data, .data, .data, .sentinel, .sentinel, .pinned] true (true, "634ba0ff8789d11f5b4bb8db74d6b87c0ead9740176e006a46d1e903b36aed8e") true
    over (fun _ h => by cases h) afm (fun _ h => by cases h) topNoted_row_tie rfl ⟨rfl, rfl⟩ Zn rfl
    (fun f fn hf hfn => by
      obtain rfl : f = 3 := Option.some.inj ((show Tryz.prog.funcNamed Rows.topNotedRow.func = some 3 by kernel_rfl).symm.trans hf) |>.symm
      obtain rfl : fn = Tryz.f3 := (Option.some.inj (Tryz.func3.symm.trans hfn)).symm
      exact ⟨WL, fun j t ht => by
        rw [Tryz.params3] at ht
        have hm : t ∈ [22, 5] := by simpa using Array.mem_of_getElem? ht
        have hall : ([22, 5].all fun u => !Tryz.prog.wantsStandIn u) = true := by kernel_rfl
        exact (show Tryz.prog.wantsStandIn t = false by simpa using List.all_eq_true.1 hall t hm)⟩)
    Zo
end Go.Proofs.YtabpkkbiioihaaaGreatDoor.topNoted
