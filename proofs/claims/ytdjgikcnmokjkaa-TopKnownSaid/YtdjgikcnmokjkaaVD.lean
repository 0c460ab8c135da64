/-
  The dues of all weeders, by rows; the dues in all truths; the error of a ledger. No program in sight.
-/
import Derived.WalkKit
import Derived.WalkLawsBesides
import Derived.WalkSpells
import Derived.Outline
import Derived.Handy
import Derived.KernelRfl
import Derived.Lib.Hide
import Derived.Test.YtdjgikcnmokjkaaVC
import Derived.Test.YtdjgikcnmokjkaaVB
namespace Go.Proofs.Ytdjgikcnmokjkaa
open Cou

/-- The dues of all weeders that there can be. -/
def duesV (rate : Int) (rows : List Int) : List Int := (List.range 3).map fun (i : Nat) => rate * (rows.count (i : Int) : Int)
theorem duesV_len (rate : Int) (rows : List Int) : (duesV rate rows).length = 3 := by simp [duesV]
theorem duesV_get (rate : Int) (rows : List Int) {i : Nat} (hi : i < 3) : (duesV rate rows).getD i 0 = rate * (rows.count (i : Int) : Int) := by
  unfold duesV
  rw [List.getD_eq_getElem?_getD, List.getElem?_map, List.getElem?_range hi]
  rfl
theorem ext3 {a b : List Int} (ha : a.length = 3) (hb : b.length = 3) (h : ∀ i, i < 3 → a.getD i 0 = b.getD i 0) : a = b := by
  refine List.ext_getElem (by omega) fun i h1 h2 => ?_
  have := h i (by omega)
  simpa [List.getD, h1, h2] using this
theorem duesV_nil (rate : Int) : duesV rate [] = [0, 0, 0] := by simp [duesV, List.range_succ]
theorem duesV_some (rate : Int) (rs : List Int) (n : Nat) (hn : n < 3) : (duesV rate rs).set n ((duesV rate rs).getD n 0 + rate) = duesV rate (rs ++ [(n : Int)]) := by
  refine ext3 (by simp [duesV_len]) (duesV_len _ _) fun i hi => ?_
  rw [duesV_get _ _ hi, List.count_append]
  by_cases e : n = i
  · subst e
    rw [List.getD_eq_getElem?_getD, List.getElem?_set_self (by rw [duesV_len]; omega), Option.getD_some, duesV_get _ _ hn]
    simp [Int.mul_add]
  · rw [List.getD_eq_getElem?_getD, List.getElem?_set_ne e, ← List.getD_eq_getElem?_getD, duesV_get _ _ hi]
    have : List.count (i : Int) [(n : Int)] = 0 := by
      rw [List.count_eq_zero]
      simp; omega
    rw [this, Nat.add_zero]
theorem duesV_none (rate : Int) (rs : List Int) (x : Int) (hx : x < 0) : duesV rate (rs ++ [x]) = duesV rate rs := by
  refine ext3 (duesV_len _ _) (duesV_len _ _) fun i hi => ?_
  rw [duesV_get _ _ hi, duesV_get _ _ hi, List.count_append]
  have : List.count (i : Int) [x] = 0 := by
    rw [List.count_eq_zero]
    simp; omega
  rw [this, Nat.add_zero]
theorem duesV_bd {rate : Int} (h0 : 0 ≤ rate) (h1 : rate ≤ 50) (rs : List Int) (hl : rs.length ≤ 7) (i : Nat) (hi : i < 3) : 0 ≤ (duesV rate rs).getD i 0 ∧ (duesV rate rs).getD i 0 ≤ 350 := by
  rw [duesV_get _ _ hi]
  have hc : (List.count (i : Int) rs : Int) ≤ 7 := by
    have := List.count_le_length (a := (i : Int)) (l := rs)
    omega
  have hc0 : (0 : Int) ≤ (List.count (i : Int) rs : Int) := by omega
  refine ⟨Int.mul_nonneg h0 hc0, ?_⟩
  calc rate * (List.count (i : Int) rs : Int) ≤ 50 * 7 := Int.mul_le_mul h1 hc hc0 (by omega)
    _ = 350 := rfl

theorem didL_count (l : List Int) (who : Int) : didL l who 0 l.length = (l.count who : Int) := by
  unfold didL
  congr 1
  have : ∀ l : List Int, (List.range' 0 l.length).countP (fun i => l.getD i 0 == who) = l.count who := by
    intro l
    rw [List.count, ← List.range_eq_range']
    have h : l = (List.range l.length).map fun i => l.getD i 0 := by
      refine List.ext_getElem (by simp) fun i h1 h2 => ?_
      simp [List.getD, h1]
    conv => rhs; rw [h]
    rw [List.countP_map]
    rfl
  exact this l

/-- The due of a weeder is the rate times the rows done. -/
theorem dues_done {f : FieldD} (_hS : SoundF f) (rate : Int) {a : List Int} (ha : a.length = f.rows.toNat) {i : Nat} (hi : i < 3) : (duesV rate a).getD i 0 = rate * doneF f a (i : Int) := by
  rw [duesV_get _ _ hi]
  unfold doneF didT
  rw [show (f.rows - 1 + 1 - 0).toNat = a.length from by omega]
  show rate * _ = rate * didL a i 0 a.length
  rw [didL_count]

end Go.Proofs.Ytdjgikcnmokjkaa
