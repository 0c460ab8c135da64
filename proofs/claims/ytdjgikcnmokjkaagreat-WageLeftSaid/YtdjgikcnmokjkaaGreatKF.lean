/-
  What a law's walk keeps: lists that last; a thin ledger.
-/
import Derived.Test.YtdjgikcnmokjkaaGreatKE
import Derived.Test.YtdjgikcnmokjkaaGreatZC
namespace Go.Proofs.YtdjgikcnmokjkaaGreat
open Go.RowKit Go.RG Go.SL Go.Shelf Cou Go.TB
set_option maxHeartbeats 400000

theorem last_lists {W : World} {v : Value} {es : List LE} (h : ListsAt W v es) : ∀ W', Below W.heap.size W W' → ListsAt W' v es := fun _ hb => ⟨SlAt.below h.1 hb (Nat.le_refl _), fun e he => (h.2 e he).below hb (Nat.le_refl _)⟩
theorem thin_facts {l : LedgerD} (h : thinL l = true) : l.field.tallies.length ≤ 7 ∧ l.notes.length ≤ 7 := by
  unfold thinL thinF at h
  simp only [Bool.and_eq_true, decide_eq_true_eq] at h
  exact ⟨h.1.1, h.2.1⟩
end Go.Proofs.YtdjgikcnmokjkaaGreat
