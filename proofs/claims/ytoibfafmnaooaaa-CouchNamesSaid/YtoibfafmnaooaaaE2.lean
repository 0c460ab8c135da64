/-
  What the chapter's heap answers, and heaps with errors: closed, by evaluation.
-/
import Derived.Test.YtoibfafmnaooaaaW31
namespace Go.Proofs.Ytoibfafmnaooaaa
open Go.RowKit Go.RG Go.SL Go.Shelf Cou
set_option maxRecDepth 100000

theorem nm_playErr : playErr (oneH 0) tOne [] = 0 := by kernel_rfl
theorem nm_playOut : playOut (oneH 0) tOne [] = [40, 50, 62, 70, 80] := by kernel_rfl
theorem nm_keeps0 : keepsV (oneH 0) [] = 2 := by kernel_rfl
theorem nm_keeps2 : keepsV (oneH 0) [2] = 1 ∧ askErr (oneH 0) [2] = 0 := ⟨by kernel_rfl, by kernel_rfl⟩
theorem nm_fear0 : fearErr (oneH 0) [] = 0 ∧ fearOut (oneH 0) [] = (2, true, false) := ⟨by kernel_rfl, by kernel_rfl⟩
theorem nm_fear2 : fearErr (oneH 0) [2] = 7 ∧ fearOut (oneH 0) [2] = (0, false, false) := ⟨by kernel_rfl, by kernel_rfl⟩
theorem nm_leave : fault (oneH 1) = 0 ∧ leaveL (oneH 1) = [] := ⟨by kernel_rfl, by kernel_rfl⟩
theorem nm_truth0 : proveR (oneH 0) tOne = true := by kernel_rfl
theorem nm_truth1 : proveR (oneH 1) tOne = false := by kernel_rfl
theorem nm_pk1 : (askErr (oneH 1) [2] == 0 && keepsV (oneH 1) [2] == 1) = true := by kernel_rfl
theorem nm_pk0 : (askErr (oneH 0) [1] == 0 && keepsV (oneH 0) [1] == 1) = false := by kernel_rfl
theorem nm_late : playErr (oneH 0) (33, [10, 10, 12, 8, 10]) [] = 2 := by kernel_rfl
theorem nm_few : playErr (oneH 0) (30, [10, 10, 12, 8]) [] = 2 := by kernel_rfl
theorem nm_five : playErr (oneH 0) tOne [5] = 2 := by kernel_rfl
theorem nm_b1 : askErr (oneH 2) [2, 1] = 2 := by kernel_rfl
theorem nm_b2 : askErr (oneH 2) [] = 11 := by kernel_rfl
theorem nm_f2 : fearErr (oneH 2) [] = 11 := by kernel_rfl
theorem nm_first : firstE (oneH 1) = 7 := by kernel_rfl
def coldH : HeapD := { oneH 0 with die := 60 }
theorem nm_cold : fewErr coldH = 10 := by kernel_rfl
theorem nm_c1 : fault { oneH 1 with last := 10 } = 3 := by kernel_rfl
theorem nm_c2 : fault { oneH 1 with size := 21 } = 1 := by kernel_rfl
theorem nm_c3 : fault { oneH 1 with cool := 101 } = 1 := by kernel_rfl
theorem nm_c4 : fault { oneH 1 with die := 61 } = 1 := by kernel_rfl
theorem nm_c5 : fault { oneH 1 with wet := (oneH 1).wet.take 4 } = 1 := by kernel_rfl
theorem nm_c6 : fault { oneH 1 with turns := [1, 1] } = 1 := by kernel_rfl
theorem nm_c7 : fault { oneH 1 with readings := [(1, 53, 51)] } = 1 := by kernel_rfl
theorem nm_c8 : fault { oneH 1 with readings := [(0, 0, 0), (0, 0, 0), (0, 0, 0), (0, 0, 0), (0, 0, 0), (0, 0, 0)] } = 3 := by kernel_rfl
theorem nm_c9 : fault { oneH 1 with start := (0, 99), wet := [(10, 12), (10, 10), (0, 9), (8, 9), (10, 10)] } = 3 := by kernel_rfl
theorem nm_c10 : fault ⟨0, 0, 0, 0, 0, (0, 0), [], [], []⟩ = 1 := by kernel_rfl

end Go.Proofs.Ytoibfafmnaooaaa
