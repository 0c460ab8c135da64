/-
  Increasing lists, the short ones first. No program in sight.
-/
import Derived.Test.YtoibfafmnaooaaaM2
namespace Cou

/-- All increasing lists of so many numbers from 'from' on, below a number, in lexicographic order. -/
def combs (below : Nat) : Nat → Nat → List (List Int)
  | 0, _ => [[]]
  | m + 1, f => (List.range (below - m - f)).flatMap fun j => (combs below m (f + j + 1)).map fun x => ((f + j : Nat) : Int) :: x

def shortL (below : Nat) (p : List Int → Bool) : Option (List Int) := ((List.range (below + 1)).flatMap fun m => combs below m 0).find? p

theorem find_flat_first {α β : Type} (p : β → Bool) (f : α → List β) : ∀ (l : List α) (k : Nat) (hk : k < l.length) (c : β), (∀ j (hj : j < k), (f (l[j]'(by omega))).find? p = none) → (f l[k]).find? p = some c → (l.flatMap f).find? p = some c := by
  intro l
  induction l with
  | nil => intro k hk; simp at hk
  | cons x l ih =>
    intro k hk c h1 h2
    rw [List.flatMap_cons, List.find?_append]
    cases k with
    | zero =>
      have h2' : (f x).find? p = some c := h2
      rw [h2']; rfl
    | succ k =>
      have h0 : (f x).find? p = none := h1 0 (by omega)
      rw [h0]
      exact ih k (by simpa using hk) c (fun j hj => h1 (j + 1) (by omega)) h2

theorem find_flat_none {α β : Type} (p : β → Bool) (f : α → List β) (l : List α) (h : ∀ j (hj : j < l.length), (f l[j]).find? p = none) : (l.flatMap f).find? p = none := by
  rw [List.find?_eq_none]
  intro x hx
  obtain ⟨y, hy, hxy⟩ := List.mem_flatMap.1 hx
  obtain ⟨j, hj, rfl⟩ := List.getElem_of_mem hy
  have := h j hj
  rw [List.find?_eq_none] at this
  exact this x hxy

theorem find_map' {α β : Type} (p : β → Bool) (f : α → β) (l : List α) : (l.map f).find? p = (l.find? (p ∘ f)).map f := by
  induction l with
  | nil => rfl
  | cons x l ih =>
    simp only [List.map_cons, List.find?_cons, Function.comp]
    cases p (f x)
    · exact ih
    · rfl

end Cou
