/-
  BookGoesOn: the row's statement.
-/
import Derived.Test.YthllkbbbapgelaaGreatDoorPGKNZL
import Derived.Test.YthllkbbbapgelaaGreatDoorPGNZO
open Go.Proofs.Z Go.Proofs.Z.Bk
namespace Go.Proofs.YthllkbbbapgelaaGreatDoor.bookGoesOn
open Go Go.ChangeShapes Go.WideShapes Go.ChangeAt Go.RowKit Go.Proofs.YthllkbbbapgelaaGreatDoor.Bk

theorem over : Rows.BookGoesOnSaid :=
  OpenClaim.holds_of_wide 7 Tryz.f7 rfl rfl rfl rfl rfl rfl rfl ⟨rfl, rfl, rfl, rfl, rfl⟩ rfl rfl rfl rfl rfl (by kernel_rfl) Tryz.func7 joined
    (of_decide_eq_true (by kernel_rfl)) (by unfold Func.isWrapper; first | (rw [if_pos (by decide +kernel)]; kernel_rfl) | (rw [if_neg (by decide +kernel)]; exact ⟨rfl, rfl⟩))
    (fun os started H enc _ => lifted os started H enc)

end Go.Proofs.YthllkbbbapgelaaGreatDoor.bookGoesOn
