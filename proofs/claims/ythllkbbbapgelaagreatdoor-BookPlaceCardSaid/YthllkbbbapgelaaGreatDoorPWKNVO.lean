/-
  BookPlace: the row's statement.
-/
import Derived.Test.YthllkbbbapgelaaGreatDoorPWKNVL
import Derived.Test.YthllkbbbapgelaaGreatDoorPWNVO
namespace Go.Proofs.YthllkbbbapgelaaGreatDoor.bookPlace
open Go Go.ChangeShapes Go.WideShapes Go.ChangeAt Go.RowKit Go.Proofs.YthllkbbbapgelaaGreatDoor.Bk

theorem over : Rows.BookPlaceSaid :=
  OpenClaim.holds_of_wide 5 Tryz.f5 rfl rfl rfl rfl rfl rfl rfl ⟨rfl, rfl, rfl, rfl, rfl⟩ rfl rfl rfl rfl rfl (by kernel_rfl) Tryz.func5 joined
    (of_decide_eq_true (by kernel_rfl)) (by unfold Func.isWrapper; first | (rw [if_pos (by decide +kernel)]; kernel_rfl) | (rw [if_neg (by decide +kernel)]; exact ⟨rfl, rfl⟩))
    (fun os started H enc _ => lifted os started H enc)

end Go.Proofs.YthllkbbbapgelaaGreatDoor.bookPlace
