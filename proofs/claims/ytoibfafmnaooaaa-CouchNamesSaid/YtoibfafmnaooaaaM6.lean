/-
  The bounds of all hours, as they are gathered. No program in sight.
-/
import Derived.Test.YtoibfafmnaooaaaM5
namespace Cou

def wid (r : Rng) (x : Int) : Rng := (min r.1 x, max r.2 x)
/-- One more list of heats, as far as hour i: k lists came ahead. -/
def partB (n k : Nat) (R : List Rng) (l : List Int) (i : Nat) : List Rng :=
  if k = 0 then (List.range i).map fun j => (l.getD j 0, l.getD j 0) else (List.range n).map fun j => if j < i then wid (R.getD j (0, 0)) (l.getD j 0) else R.getD j (0, 0)
def boundsTo (n : Nat) (ls : List (List Int)) : Nat → List Rng
  | 0 => []
  | k + 1 => partB n k (boundsTo n ls k) (ls.getD k []) n
def boundsL (n : Nat) (ls : List (List Int)) : List Rng := boundsTo n ls ls.length

theorem partB_len0 (n : Nat) (R : List Rng) (l : List Int) (i : Nat) : (partB n 0 R l i).length = i := by simp [partB]
theorem partB_len (n k : Nat) (R : List Rng) (l : List Int) (i : Nat) (hk : k ≠ 0) : (partB n k R l i).length = n := by simp [partB, hk]
theorem boundsTo_len (n : Nat) (ls : List (List Int)) (k : Nat) (hk : k ≠ 0) : (boundsTo n ls k).length = n := by
  cases k with
  | zero => exact absurd rfl hk
  | succ k =>
    unfold boundsTo
    by_cases h : k = 0
    · subst h; exact partB_len0 _ _ _ _
    · exact partB_len _ _ _ _ _ h

theorem partB_zero {n k : Nat} {R : List Rng} {l : List Int} (hR : k ≠ 0 → R.length = n) (h0 : k = 0 → R = []) : partB n k R l 0 = R := by
  unfold partB
  split
  · rename_i h; rw [h0 h]; rfl
  · rename_i h
    apply List.ext_getElem
    · simp [hR h]
    · intro i h1 h2; simp [List.getD, h2]

theorem partB_app {n : Nat} {R : List Rng} {l : List Int} {i : Nat} : partB n 0 R l i ++ [(l.getD i 0, l.getD i 0)] = partB n 0 R l (i + 1) := by
  simp [partB, List.range_succ]

/-- At the first list the appended range is made wider by its own number. -/
theorem partB_set0 {n : Nat} {R : List Rng} {l : List Int} {i : Nat} : (partB n 0 R l (i + 1)).set i (wid ((partB n 0 R l (i + 1)).getD i (0, 0)) (l.getD i 0)) = partB n 0 R l (i + 1) := by
  apply List.ext_getElem
  · simp
  · intro j h1 h2
    rw [List.getElem_set]
    split
    · rename_i h; subst h; simp [partB, wid, List.getD]
    · rfl

theorem partB_set {n k : Nat} {R : List Rng} {l : List Int} {i : Nat} (hk : k ≠ 0) (hi : i < n) : (partB n k R l i).set i (wid ((partB n k R l i).getD i (0, 0)) (l.getD i 0)) = partB n k R l (i + 1) := by
  apply List.ext_getElem
  · simp [partB, hk]
  · intro j h1 h2
    have hj : j < n := by simpa [partB, hk] using h2
    rw [List.getElem_set]
    split
    · rename_i h; subst h; simp [partB, hk, hi]
    · rename_i h
      simp only [partB, hk, if_false, List.getElem_map, List.getElem_range]
      by_cases h3 : j < i
      · rw [if_pos h3, if_pos (by omega)]
      · rw [if_neg h3, if_neg (by omega)]

end Cou
