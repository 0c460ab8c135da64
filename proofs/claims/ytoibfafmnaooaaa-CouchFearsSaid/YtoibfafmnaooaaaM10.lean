/-
  The plain laws of chapter 4: first wrong reading, smallest set. No program in sight.
-/
import Derived.Test.YtoibfafmnaooaaaM9
namespace Cou

theorem okT_all (h : HeapD) (t : Int × List Int) : okT h [] t = h.readings.all (rightR · (heats h t h.turns)) := by
  unfold okT
  rw [Bool.eq_iff_iff, List.all_eq_true, List.all_eq_true]
  constructor
  · intro hh x hx
    obtain ⟨i, hi, rfl⟩ := List.getElem_of_mem hx
    have := hh i (List.mem_range.2 hi)
    simp only [okAt, List.contains_nil, Bool.false_or] at this
    rwa [show h.readings.getD i (0, 0, 0) = h.readings[i] from by simp [List.getD, hi]] at this
  · intro hh i hi
    have hi' := List.mem_range.1 hi
    simp only [okAt, List.contains_nil, Bool.false_or]
    rw [show h.readings.getD i (0, 0, 0) = h.readings[i] from by simp [List.getD, hi']]
    exact hh _ (List.getElem_mem _)

theorem truths_ne {h : HeapD} {out : List Int} : (truthsL h out).isEmpty = false ↔ ∃ x ∈ allL h, okT h out (toT x) = true := by
  unfold truthsL
  constructor
  · intro he
    cases hl : (allL h).filter fun l => okT h out (toT l) with
    | nil => rw [hl] at he; cases he
    | cons y ys =>
      have : y ∈ (allL h).filter fun l => okT h out (toT l) := by rw [hl]; simp
      exact ⟨y, (List.mem_filter.1 this).1, (List.mem_filter.1 this).2⟩
  · rintro ⟨x, hx, hok⟩
    have hm : x ∈ (allL h).filter fun l => okT h out (toT l) := List.mem_filter.2 ⟨hx, hok⟩
    cases hl : (allL h).filter fun l => okT h out (toT l) with
    | nil => rw [hl] at hm; cases hm
    | cons y ys => rfl

/-- To leave readings out is to look at the others alone. -/
theorem can_some {h : HeapD} {m : Nat} {out : List Int} (hm : ∀ i, i < h.readings.length → m.testBit i = !out.contains (i : Int)) : canL h out = !(truthsL (someH h m) []).isEmpty := by
  have key : ∀ t, okT (someH h m) [] t = okT h out t := by
    intro t
    rw [okT_all]
    unfold okT
    rw [Bool.eq_iff_iff, List.all_eq_true, List.all_eq_true]
    constructor
    · intro hh i hi
      have hi' := List.mem_range.1 hi
      simp only [okAt, Bool.or_eq_true]
      cases hc : out.contains (i : Int)
      · right
        exact hh _ (mem_someL.2 ⟨i, hi', by rw [hm i hi', hc]; rfl, rfl⟩)
      · exact .inl rfl
    · intro hh x hx
      obtain ⟨i, hi, hb, rfl⟩ := mem_someL.1 hx
      have := hh i (List.mem_range.2 hi)
      rw [hm i hi] at hb
      simp only [okAt, Bool.or_eq_true] at this
      rcases this with e | e
      · rw [e] at hb; cases hb
      · exact e
  unfold canL
  congr 1
  unfold truthsL
  rw [show allL (someH h m) = allL h from rfl]
  simp only [key, List.isEmpty_map]

theorem someH_take (h : HeapD) (k : Nat) (hk : k ≤ h.readings.length) : someH h (2 ^ k - 1) = withR h k := by
  unfold someH withR
  rw [some_take _ _ hk]

/-! ### The first wrong reading -/
theorem none_truth {h : HeapD} (hS : Sound h) (hr : h.readings.length = 0) : (truthsL h []).isEmpty = false := by
  rw [truths_ne]
  obtain ⟨x, hx⟩ : ∃ x, x ∈ allL h := by
    cases hl : allL h with
    | nil => exact absurd hl (allL_ne hS)
    | cons y ys => exact ⟨y, by simp⟩
  refine ⟨x, hx, ?_⟩
  rw [okT_all, List.eq_nil_of_length_eq_zero hr]
  rfl

theorem withR_truth {h : HeapD} (hS : Sound h) {n : Nat} (hn : ∀ j, j < n → wrongAt h j = false) : (truthsL (withR h n) []).isEmpty = false := by
  cases n with
  | zero => exact none_truth (withR_sound hS 0) (by simp [withR])
  | succ n => exact hn n (by omega)

theorem first_none {h : HeapD} (hS : Sound h) (hf : firstS h = none) : (truthsL h []).isEmpty = false := by
  have h1 : ∀ j, j < h.readings.length → wrongAt h j = false := by
    unfold firstS at hf
    rw [List.find?_eq_none] at hf
    intro j hj
    simpa using hf j (List.mem_range.2 hj)
  have := withR_truth hS h1
  rwa [show withR h h.readings.length = h from by unfold withR; rw [List.take_length]] at this

theorem first_some {h : HeapD} (hS : Sound h) {n : Nat} (hf : firstS h = some n) : n < h.readings.length ∧ (truthsL (withR h n) []).isEmpty = false ∧ (truthsL (withR h (n + 1)) []).isEmpty = true := by
  unfold firstS at hf
  rw [List.find?_eq_some_iff_getElem] at hf
  obtain ⟨h1, i, hi, h2, h3⟩ := hf
  simp only [List.getElem_range] at h2
  subst h2
  refine ⟨by simpa using hi, withR_truth hS fun j hj => ?_, h1⟩
  have := h3 j hj
  simpa using this

/-! ### The smallest set -/
theorem leave_some {h : HeapD} (hS : Sound h) : ∃ c, leaveL h = c ∧ canL h c = true ∧ Inc h.readings.length 0 c ∧ ∀ x, Inc h.readings.length 0 x → canL h x = true → shorter x c = false := by
  obtain ⟨c, hc⟩ := leaveS_some hS
  obtain ⟨h1, h2, h3⟩ := shortL_some hc
  refine ⟨c, ?_, h1, h2, h3⟩
  unfold leaveL
  rw [if_neg (by rw [fault_sound hS]; simp), hc]
  rfl

/-- Nothing has to be left out if and only if there is a truth. -/
theorem leave_nil {h : HeapD} (hS : Sound h) : leaveL h = [] ↔ (truthsL h []).isEmpty = false := by
  obtain ⟨c, hc, h1, h2, h3⟩ := leave_some hS
  rw [hc]
  constructor
  · rintro rfl
    simpa [canL] using h1
  · intro hn
    have h4 := h3 [] trivial (by simp [canL, hn])
    cases c with
    | nil => rfl
    | cons x c => simp [shorter] at h4

end Cou
