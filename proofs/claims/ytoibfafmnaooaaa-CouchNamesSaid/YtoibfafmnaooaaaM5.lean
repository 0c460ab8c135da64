/-
  What 'every' gathers: the heats of all truths, equal neighbours once. No program in sight.
-/
import Derived.Test.YtoibfafmnaooaaaM4
namespace Cou

def snocD (acc : List (List Int)) (x : List Int) : List (List Int) := if acc.getLast? = some x then acc else acc ++ [x]
def everyL (h : HeapD) (turns : List Int) : List (List Int) := (truthsL h []).foldl (fun acc t => snocD acc (heats h t turns)) []
def everyTo (h : HeapD) (turns : List Int) (k : Nat) : List (List Int) := ((truthsL h []).take k).foldl (fun acc t => snocD acc (heats h t turns)) []

theorem everyTo_succ {h : HeapD} {turns : List Int} {k : Nat} (hk : k < (truthsL h []).length) : everyTo h turns (k + 1) = snocD (everyTo h turns k) (heats h (truthsL h [])[k] turns) := by
  unfold everyTo
  rw [List.take_succ_eq_append_getElem hk, List.foldl_append]
  rfl
theorem everyTo_all (h : HeapD) (turns : List Int) : everyTo h turns (truthsL h []).length = everyL h turns := by unfold everyTo; rw [List.take_length]; rfl

theorem mem_snocD (acc : List (List Int)) (x y : List Int) : y ∈ snocD acc x ↔ y ∈ acc ∨ y = x := by
  unfold snocD
  split
  · rename_i h
    constructor
    · exact .inl
    · rintro (h1 | rfl)
      · exact h1
      · exact List.mem_of_getLast? h
  · simp

theorem mem_fold {α : Type} (f : α → List Int) : ∀ (l : List α) (acc : List (List Int)) (y : List Int), y ∈ l.foldl (fun acc t => snocD acc (f t)) acc ↔ y ∈ acc ∨ ∃ t ∈ l, y = f t := by
  intro l
  induction l with
  | nil => intro acc y; simp
  | cons a l ih =>
    intro acc y
    rw [List.foldl_cons, ih, mem_snocD]
    simp only [List.mem_cons, exists_eq_or_imp, or_assoc]

theorem mem_everyL (h : HeapD) (turns : List Int) (y : List Int) : y ∈ everyL h turns ↔ ∃ t ∈ truthsL h [], y = heats h t turns := by
  unfold everyL; rw [mem_fold]; simp
theorem mem_everyTo {h : HeapD} {turns : List Int} {k : Nat} {y : List Int} (hy : y ∈ everyTo h turns k) : ∃ t ∈ truthsL h [], y = heats h t turns := by
  unfold everyTo at hy
  rw [mem_fold] at hy
  simp only [List.not_mem_nil, false_or] at hy
  obtain ⟨t, ht, rfl⟩ := hy
  exact ⟨t, List.mem_of_mem_take ht, rfl⟩
theorem everyTo_ten {h : HeapD} {turns : List Int} {k : Nat} : ∀ y ∈ everyTo h turns k, y.length = 10 := by
  intro y hy
  obtain ⟨t, _, rfl⟩ := mem_everyTo hy
  exact heatsTo_length _ _ _ _ _ _
theorem everyL_ten {h : HeapD} {turns : List Int} : ∀ y ∈ everyL h turns, y.length = 10 := by
  rw [← everyTo_all]; exact everyTo_ten
theorem snocD_len (acc : List (List Int)) (x : List Int) : (snocD acc x).length ≤ acc.length + 1 := by
  unfold snocD; split <;> simp
theorem everyTo_len (h : HeapD) (turns : List Int) : ∀ k, (everyTo h turns k).length ≤ k := by
  intro k
  induction k with
  | zero => simp [everyTo]
  | succ k ih =>
    by_cases hk : k < (truthsL h []).length
    · rw [everyTo_succ hk]
      have := snocD_len (everyTo h turns k) (heats h (truthsL h [])[k] turns)
      omega
    · have e : everyTo h turns (k + 1) = everyTo h turns k := by
        unfold everyTo; rw [List.take_of_length_le (by omega), List.take_of_length_le (by omega)]
      rw [e]; omega
theorem everyL_len (h : HeapD) (turns : List Int) : (everyL h turns).length ≤ (truthsL h []).length := by
  rw [← everyTo_all]; exact everyTo_len _ _ _

theorem everyL_nil {h : HeapD} {turns : List Int} (hn : truthsL h [] ≠ []) : everyL h turns ≠ [] := by
  intro he
  obtain ⟨t, ht⟩ := List.exists_mem_of_ne_nil _ hn
  have := (mem_everyL h turns (heats h t turns)).2 ⟨t, ht, rfl⟩
  rw [he] at this
  cases this

theorem prodL_count (rs : List Rng) (hr : ∀ r ∈ rs, 1 ≤ sizeR r) : ((prodL rs).length : Int) = prod rs := by
  induction rs with
  | nil => rfl
  | cons r rs ih =>
    rw [prodL_length]
    have h1 := hr r (by simp)
    have ih' := ih (fun x hx => hr x (by simp [hx]))
    show (((sizeR r).toNat * (prodL rs).length : Nat) : Int) = sizeR r * prod rs
    rw [Int.natCast_mul, ih', Int.toNat_of_nonneg (by omega)]

theorem truthsL_len {h : HeapD} (hS : Sound h) (out : List Int) : (truthsL h out).length ≤ 2000 := by
  have h1 : (truthsL h out).length ≤ (allL h).length := by unfold truthsL; rw [List.length_map]; exact List.length_filter_le _ _
  have h2 := prodL_count (h.start :: h.wet) (fun r hr => by
    rcases List.mem_cons.1 hr with rfl | hr
    · have := hS.start1; unfold sizeR; omega
    · have := hS.wet r hr; unfold sizeR; omega)
  have h3 := hS.many
  unfold allL at h1
  omega

end Cou
