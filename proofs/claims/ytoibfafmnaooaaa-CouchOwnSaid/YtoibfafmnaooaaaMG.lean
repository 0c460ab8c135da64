/-
  The plain laws of chapter 4, ninth part: CouchOwn. No program in sight.
-/
import Derived.WalkKit
import Derived.WalkLawsBesides
import Derived.WalkSpells
import Derived.Outline
import Derived.Handy
import Derived.KernelRfl
import Derived.Lib.Hide
import Derived.Test.YtoibfafmnaooaaaMF
namespace Go.Proofs.Ytoibfafmnaooaaa
open Cou

/-- A reading that shows the heat of a truth is right in it. -/
theorem own_plain {h : HeapD} (hS : Sound h) {t : Int × List Int} (hl : listedT h t = true) {K : Nat} (hK : (K : Int) ≤ h.last) {y D : Int} (hy : y = (playOut h t h.turns).getD K 0) (hy0 : 0 ≤ y) (hy1 : y ≤ 1000) (hD0 : 0 ≤ D) (hD1 : D ≤ 50) (h4 : h.readings.length ≤ 4) :
    proveR (moreH h ((K : Int), y, D)) t = proveR h t := by
  have h9 := hS.last9
  have hw := hS.wetLen
  have htl := ((listedT_iff hS t).1 hl).1
  have hX : Sound (moreH h ((K : Int), y, D)) :=
    ⟨hS.last0, hS.last9, hS.size0, hS.size1, hS.cool0, hS.cool1, hS.die0, hS.burn0, hS.burn1, hS.start0, hS.start1, hS.start2, hS.wetLen, hS.turns, hS.wet, fun x hx => by
      rcases List.mem_append.1 hx with hx | hx
      · exact hS.rdg x hx
      · obtain rfl := List.mem_singleton.1 hx
        exact ⟨⟨by simp only; omega, hK⟩, ⟨hy0, hy1⟩, hD0, hD1⟩, by show (h.readings ++ [((K : Int), y, D)]).length ≤ 5; simp; omega, hS.many⟩
  have hh : (heats h t h.turns).getD K 0 = y := by
    obtain ⟨_, _, p3⟩ := play_okL hS hl hS.turns
    rw [hy, p3 K (by omega), heatI_at (by omega) (by omega)]
    rfl
  have hr : rightR ((K : Int), y, D) (heats h t h.turns) = true := by
    unfold rightR inB
    simp only [Int.toNat_natCast, hh, Bool.and_eq_true, decide_eq_true_eq]
    omega
  unfold proveR isTruth
  rw [fault_sound hX, fault_sound hS]
  show (decide ((0 : Int) = 0) && (listedT h t && (h.readings ++ [((K : Int), y, D)]).all (rightR · (heats h t h.turns)))) = _
  rw [List.all_append]
  simp [hr]

end Go.Proofs.Ytoibfafmnaooaaa
