/-
  The plain laws of chapter 4, third part: bounds, verdicts, fewest turnings. No program in sight.
-/
import Derived.Test.YtoibfafmnaooaaaR6
import Derived.Test.YtoibfafmnaooaaaW23
import Derived.Test.YtoibfafmnaooaaaW28
namespace Go.Proofs.Ytoibfafmnaooaaa
open Cou

/-! ### The bounds of some heats -/
theorem getD_lt {α : Type} {l : List α} {i : Nat} {d : α} (h : i < l.length) : l.getD i d = l[i] := by simp [List.getD, h]

theorem boundsTo_at (n : Nat) (ls : List (List Int)) : ∀ k, k ≤ ls.length → k ≠ 0 → ∀ i, i < n →
    (∀ l ∈ ls.take k, ((boundsTo n ls k).getD i (0, 0)).1 ≤ l.getD i 0 ∧ l.getD i 0 ≤ ((boundsTo n ls k).getD i (0, 0)).2) ∧
    (∃ l ∈ ls.take k, ((boundsTo n ls k).getD i (0, 0)).1 = l.getD i 0) ∧ (∃ l ∈ ls.take k, ((boundsTo n ls k).getD i (0, 0)).2 = l.getD i 0) := by
  intro k
  induction k with
  | zero => intro _ h; exact absurd rfl h
  | succ k ih =>
    intro hk _ i hi
    have hk' : k < ls.length := by omega
    have ht : ls.take (k + 1) = ls.take k ++ [ls[k]] := List.take_succ_eq_append_getElem hk'
    have hg : ls.getD k [] = ls[k] := getD_lt hk'
    by_cases h0 : k = 0
    · subst h0
      have e : (boundsTo n ls 1).getD i (0, 0) = ((ls[0]).getD i 0, (ls[0]).getD i 0) := by
        simp only [boundsTo, partB, hg]
        rw [getD_lt (by simp; omega)]
        simp
      rw [e]
      simp only [Nat.zero_add] at ht ⊢
      rw [ht]
      exact ⟨fun l hl => by obtain rfl := List.mem_singleton.1 (by simpa using hl); exact ⟨Int.le_refl _, Int.le_refl _⟩, ⟨ls[0], by simp, rfl⟩, ⟨ls[0], by simp, rfl⟩⟩
    · obtain ⟨h1, ⟨l2, hl2, h2⟩, ⟨l3, hl3, h3⟩⟩ := ih (by omega) h0 i hi
      have hlen := boundsTo_len n ls k h0
      have e : (boundsTo n ls (k + 1)).getD i (0, 0) = wid ((boundsTo n ls k).getD i (0, 0)) ((ls[k]).getD i 0) := by
        simp only [boundsTo, partB, hg, h0, if_false]
        rw [getD_lt (by simp; omega)]
        simp [hi]
      rw [e, ht]
      generalize (boundsTo n ls k).getD i (0, 0) = r at *
      simp only [wid]
      refine ⟨fun l hl => ?_, ?_, ?_⟩
      · rcases List.mem_append.1 hl with hl | hl
        · have := h1 l hl; omega
        · obtain rfl := List.mem_singleton.1 hl; omega
      · by_cases hc : r.1 ≤ (ls[k]).getD i 0
        · exact ⟨l2, List.mem_append_left _ hl2, by omega⟩
        · exact ⟨ls[k], List.mem_append_right _ (List.mem_singleton.2 rfl), by omega⟩
      · by_cases hc : (ls[k]).getD i 0 ≤ r.2
        · exact ⟨l3, List.mem_append_left _ hl3, by omega⟩
        · exact ⟨ls[k], List.mem_append_right _ (List.mem_singleton.2 rfl), by omega⟩

theorem boundsL_len {n : Nat} {ls : List (List Int)} (h : ls ≠ []) : (boundsL n ls).length = n := boundsTo_len n ls _ (by cases ls <;> simp_all)
theorem boundsL_at {n : Nat} {ls : List (List Int)} (h : ls ≠ []) {i : Nat} (hi : i < n) :
    (∀ l ∈ ls, ((boundsL n ls).getD i (0, 0)).1 ≤ l.getD i 0 ∧ l.getD i 0 ≤ ((boundsL n ls).getD i (0, 0)).2) ∧
    (∃ l ∈ ls, ((boundsL n ls).getD i (0, 0)).1 = l.getD i 0) ∧ (∃ l ∈ ls, ((boundsL n ls).getD i (0, 0)).2 = l.getD i 0) := by
  have := boundsTo_at n ls ls.length (Nat.le_refl _) (by cases ls <;> simp_all) i hi
  rwa [List.take_length] at this

/-- Fewer heats: no bounds are wider. -/
theorem boundsL_sub {n : Nat} {ls ms : List (List Int)} (hl : ls ≠ []) (hs : ∀ l ∈ ls, l ∈ ms) {i : Nat} (hi : i < n) :
    ((boundsL n ms).getD i (0, 0)).1 ≤ ((boundsL n ls).getD i (0, 0)).1 ∧ ((boundsL n ls).getD i (0, 0)).2 ≤ ((boundsL n ms).getD i (0, 0)).2 := by
  have hm : ms ≠ [] := by
    cases ls with
    | nil => exact absurd rfl hl
    | cons l ls => intro e; have := hs l (by simp); rw [e] at this; cases this
  obtain ⟨_, ⟨l1, h1, e1⟩, ⟨l2, h2, e2⟩⟩ := boundsL_at hl hi
  have h3 := (boundsL_at hm hi).1 l1 (hs _ h1)
  have h4 := (boundsL_at hm hi).1 l2 (hs _ h2)
  omega

/-! ### Without cooling -/
theorem heatAt_still {size cool : Int} (hc : cool = 0) (turns : List Int) (start : Int) (wet : List Int) : ∀ k, heatAt size cool turns start wet k = heatAt size cool [] start wet k := by
  subst hc
  intro k
  induction k with
  | zero => rfl
  | succ k ih => simp only [heatAt, stepH, ih, cooled]; split <;> simp
theorem heats_still {h : HeapD} (hc : h.cool = 0) (t : Int × List Int) (turns : List Int) : heats h t turns = heats h t [] := by
  unfold heats heatsTo
  apply List.map_congr_left
  intro j _
  rw [heatAt_still hc turns]
theorem every_still {h : HeapD} (hc : h.cool = 0) (turns : List Int) : everyL h turns = everyL h [] := by
  unfold everyL
  congr 1
  funext acc t
  rw [heats_still hc]
theorem ask_of' {h : HeapD} (hS : Sound h) : askErr h [] = if (truthsL h []).isEmpty then 11 else 0 := by
  unfold askErr
  rw [if_neg (by rw [fault_sound hS]; simp), if_neg (by simp [isTurns, turnsFrom])]
theorem ask_turns {h : HeapD} (hS : Sound h) {turns : List Int} (ht : isTurns h.last turns = true) : askErr h turns = if (truthsL h []).isEmpty then 11 else 0 := by
  unfold askErr
  rw [if_neg (by rw [fault_sound hS]; simp), if_neg (by rw [ht]; simp)]

def narrowerB (a b : List Rng) : Bool := decide (a.length = b.length) && (List.range a.length).all fun i => insideB (a.getD i (0, 0)) (b.getD i (0, 0))
theorem narrowerB_of {a b : List Rng} (hl : a.length = b.length) (h : ∀ i, i < a.length → (b.getD i (0, 0)).1 ≤ (a.getD i (0, 0)).1 ∧ (a.getD i (0, 0)).2 ≤ (b.getD i (0, 0)).2) : narrowerB a b = true := by
  simp only [narrowerB, Bool.and_eq_true, decide_eq_true_eq, List.all_eq_true, List.mem_range]
  exact ⟨hl, fun i hi => by simp only [insideB, Bool.and_eq_true, decide_eq_true_eq]; exact h i hi⟩
theorem narrowerB_refl (a : List Rng) : narrowerB a a = true := narrowerB_of rfl fun _ _ => ⟨Int.le_refl _, Int.le_refl _⟩

theorem every_ne {h : HeapD} {turns : List Int} (ht : (truthsL h []).isEmpty = false) : everyL h turns ≠ [] := everyL_nil (by cases hl : truthsL h [] <;> simp_all)

theorem still_plain {h : HeapD} (hS : Sound h) (hc : h.cool = 0) {turns : List Int} (ht : isTurns h.last turns = true) :
    (askErr h [] = 11 ∧ askErr h turns = 11 ∧ fewErr h = 11) ∨
    (askErr h [] = 0 ∧ askErr h turns = 0 ∧ boundsOut h turns = boundsOut h [] ∧ ((fewErr h = 0 ∧ fewL h = []) ∨ (fewErr h = 10 ∧ (askErr h turns == 0 && keepsV h turns == 1) = false))) := by
  have h1 := ask_of' hS
  have h2 := ask_turns hS ht
  cases hem : (truthsL h []).isEmpty
  · rw [hem] at h1 h2
    refine .inr ⟨h1, h2, ?_, ?_⟩
    · unfold boundsOut
      rw [h1, h2, every_still hc]
    · have hsafe : ∀ l, safeL h l = safeL h [] := fun l => by
        unfold safeL
        congr 1
        funext t
        rw [heats_still hc]
      cases hs : safeL h []
      · right
        have hf : fewS h = none := by
          unfold fewS
          cases hsh : shortL (h.last + 1).toNat (safeL h) with
          | none => rfl
          | some c => have := (shortL_some hsh).1; rw [hsafe, hs] at this; cases this
        refine ⟨by unfold fewErr; rw [h1, hf]; rfl, ?_⟩
        rw [Bool.and_eq_false_iff]
        right
        rw [beq_eq_false_iff_ne]
        unfold keepsV
        rw [h2]
        simp only [Bool.false_eq_true, ne_eq, not_true_eq_false, if_false]
        have : ¬ (everyL h turns).all (keptL h) = true := by
          intro hall
          rw [List.all_eq_true] at hall
          have : safeL h turns = true := by
            unfold safeL
            rw [List.all_eq_true]
            intro t htm
            exact hall _ ((mem_everyL h turns _).2 ⟨t, htm, rfl⟩)
          rw [hsafe, hs] at this
          cases this
        rw [if_neg this]
        split <;> decide
      · left
        have hf : fewS h = some [] := shortL_is hs trivial fun x _ _ => by cases x <;> simp [shorter, before]
        exact ⟨by unfold fewErr; rw [h1, hf]; rfl, by unfold fewL; rw [h1, hf]; rfl⟩
  · rw [hem] at h1 h2
    exact .inl ⟨h1, h2, by unfold fewErr; rw [h1]; rfl⟩

end Go.Proofs.Ytoibfafmnaooaaa
