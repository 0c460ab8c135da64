/-
  What the chapter's heap answers: closed, by evaluation.
-/
import Derived.Test.YtoibfafmnaooaaaW30
namespace Go.Proofs.Ytoibfafmnaooaaa
open Go.RowKit Go.RG Go.SL Go.Shelf Cou
set_option maxRecDepth 100000

abbrev tOne : Int × List Int := (30, [10, 10, 12, 8, 10])
theorem ev_playErr : playErr (oneH 0) tOne [2] = 0 := by kernel_rfl
theorem ev_playOut : playOut (oneH 0) tOne [2] = [40, 50, 37, 45, 55] := by kernel_rfl
theorem ev_ask0 : askErr (oneH 0) [] = 0 := by kernel_rfl
theorem ev_bounds : (boundsOut (oneH 0) []).length = 5 ∧ (boundsOut (oneH 0) []).getD 3 (0, 0) = (70, 75) := ⟨by kernel_rfl, by kernel_rfl⟩
theorem ev_ask1 : askErr (oneH 0) [1] = 0 := by kernel_rfl
theorem ev_keeps : keepsV (oneH 0) [1] = 3 := by kernel_rfl
theorem ev_ask2 : askErr (oneH 1) [1] = 0 := by kernel_rfl
theorem ev_keeps1 : keepsV (oneH 1) [1] = 2 := by kernel_rfl
theorem ev_fear : fearErr (oneH 0) [1] = 0 ∧ fearOut (oneH 0) [1] = (4, true, false) := ⟨by kernel_rfl, by kernel_rfl⟩
theorem ev_few : fewErr (oneH 0) = 0 ∧ fewL (oneH 0) = [2] := ⟨by kernel_rfl, by kernel_rfl⟩
theorem ev_first : firstV (oneH 2) = 1 ∧ firstE (oneH 2) = 0 := ⟨by kernel_rfl, by kernel_rfl⟩
theorem ev_leave : fault (oneH 2) = 0 ∧ leaveL (oneH 2) = [0] := ⟨by kernel_rfl, by kernel_rfl⟩

end Go.Proofs.Ytoibfafmnaooaaa
