/-
  What a law's walk keeps: blocks and facts that last; the bounds of a part, or the error.
-/
import Derived.WalkKit
import Derived.WalkLawsBesides
import Derived.WalkSpells
import Derived.Outline
import Derived.Handy
import Derived.KernelRfl
import Derived.Lib.Hide
import Derived.BigRegion
import Derived.Deep.Cut
import Derived.Test.YtdjgikcnmokjkaaGreatVK
import Derived.Test.YtdjgikcnmokjkaaGreatUL
import Derived.Test.YtdjgikcnmokjkaaGreatUJ
namespace Go.Proofs.YtdjgikcnmokjkaaGreat
open Go.RowKit Go.RG Go.SL Go.Shelf Cou Go.TB
set_option maxHeartbeats 400000
set_option maxRecDepth 10000

/-- From w on nothing old has turned; the blocks B and the facts S hold, and last. -/
structure Keeps (w W : World) (B S : World → Prop) : Prop where
  below : Below w.heap.size w W
  blk : B W
  is : S W
  blkL : ∀ W', Below W.heap.size W W' → B W'
  isL : ∀ W', Below W.heap.size W W' → S W'
theorem Keeps.next {w W W' : World} {B S : World → Prop} (h : Keeps w W B S) (hb : Below W.heap.size W W') : Keeps w W' B S :=
  ⟨bgo h.below hb, h.blkL _ hb, h.isL _ hb, fun _ h' => h.blkL _ (bgo hb h'), fun _ h' => h.isL _ (bgo hb h')⟩
theorem Keeps.add {w W : World} {B S T : World → Prop} (h : Keeps w W B S) (t : T W) (tl : ∀ W', Below W.heap.size W W' → T W') : Keeps w W B (fun X => T X ∧ S X) :=
  ⟨h.below, h.blk, ⟨t, h.is⟩, h.blkL, fun _ h' => ⟨tl _ h', h.isL _ h'⟩⟩
theorem Keeps.more {w W : World} {B S T : World → Prop} (h : Keeps w W B S) (t : T W) (tl : ∀ W', Below W.heap.size W W' → T W') : Keeps w W (fun X => T X ∧ B X) S :=
  ⟨h.below, ⟨t, h.blk⟩, h.is, fun _ h' => ⟨tl _ h', h.blkL _ h'⟩, h.isL⟩
/-- One block, from the start on. -/
theorem Keeps.one {w W : World} {b : Nat} {o : Obj} (h : Below w.heap.size w W) (hb : W.heap[b]? = some o) : Keeps w W (fun X => X.heap[b]? = some o) (fun _ => True) :=
  ⟨h, hb, trivial, fun _ h' => (h'.block _ (Array.getElem?_eq_some_iff.1 hb).1).trans hb, fun _ _ => trivial⟩
theorem last_block {W : World} {b : Nat} {o : Obj} (hb : W.heap[b]? = some o) : ∀ W', Below W.heap.size W W' → W'.heap[b]? = some o := fun _ h' => (h'.block _ (Array.getElem?_eq_some_iff.1 hb).1).trans hb
theorem last_at {W : World} {size : Nat} {v : Value} {n : Nat} {xs : List Value} (h : SlAt size W v n xs) : ∀ W', Below W.heap.size W W' → SlAt size W' v n xs := fun _ h' => h.below h' (Nat.le_refl _)

/-- The bounds of a part, or the error, in one. -/
theorem PartPost.uni {p : Int → Rng → Rng} {l : LedgerD} {w w' : World} {e : Ending} (h : PartPost p l w e w') : ∃ o m c, e = .returned (.tuple #[.slice o m c, iv (askedErr l true)]) ∧
    (askedErr l true = 0 → m = (bndL p l (duesT l)).length ∧ SlAt 2 w' (.slice o m c) m (pairCells (bndL p l (duesT l)))) ∧ (askedErr l true ≠ 0 → m = 0) ∧ Below w.heap.size w w' := by
  obtain ⟨hb, ⟨hne, rfl⟩ | ⟨h0, u, rfl, hu⟩⟩ := h
  · exact ⟨none, 0, 0, rfl, fun h => absurd h hne, fun _ => rfl, hb⟩
  · obtain ⟨o, c, rfl⟩ := hu.open
    exact ⟨o, _, c, by rw [h0], fun _ => ⟨rfl, hu⟩, fun h => absurd h0 h, hb⟩
theorem PairsAt.at_ {w : World} {v : Value} {rs : List Rng} {n : Nat} (h : PairsAt w v rs) (hn : rs.length = n) : SlAt 2 w v n (pairCells rs) := by
  have := h
  unfold PairsAt at this
  rw [hn] at this
  exact this
theorem IntsAt.at_ {w : World} {v : Value} {rs : List Int} {n : Nat} (h : IntsAt w v rs) (hn : rs.length = n) : SlAt 1 w v n (intCells rs) := by
  have := h
  unfold IntsAt at this
  rw [hn] at this
  exact this
theorem IntsAt.of_at {w : World} {v : Value} {rs : List Int} {n : Nat} (h : SlAt 1 w v n (intCells rs)) (hn : rs.length = n) : IntsAt w v rs := by
  unfold IntsAt
  rw [hn]
  exact h
theorem PairsAt.of_at {w : World} {v : Value} {rs : List Rng} {n : Nat} (h : SlAt 2 w v n (pairCells rs)) (hn : rs.length = n) : PairsAt w v rs := by
  unfold PairsAt
  rw [hn]
  exact h
theorem asked_err {l : LedgerD} (h : faultW l = 0) : askedErr l true = 0 ∨ askedErr l true = 11 := by
  unfold askedErr
  rw [h]
  simp only [ne_eq, not_true_eq_false, if_false, Bool.true_eq_false]
  split
  · exact .inr rfl
  · exact .inl rfl
end Go.Proofs.YtdjgikcnmokjkaaGreat
