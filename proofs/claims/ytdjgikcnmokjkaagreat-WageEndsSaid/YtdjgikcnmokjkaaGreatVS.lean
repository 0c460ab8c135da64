/-
  Plain: both ends of a weeder's bounds are met by some rows and some payment (WageEnds).
-/
import Derived.WalkKit
import Derived.WalkLawsBesides
import Derived.WalkSpells
import Derived.Outline
import Derived.Handy
import Derived.KernelRfl
import Derived.Lib.Hide
import Derived.Test.YtdjgikcnmokjkaaGreatVM
namespace Go.Proofs.YtdjgikcnmokjkaaGreat
open Go.RowKit Go.RG Go.SL Go.Shelf Cou Go.TB
set_option maxHeartbeats 400000

def endsL (A B C : Rng) (x : Int × Int) : List Bool := [x.1 == A.1, x.1 == A.2, x.2 == B.1, x.2 == B.2, x.1 - x.2 == C.1, x.1 - x.2 == C.2]
def orTo (es : List Bool) (m : Nat) : Nat → Nat
  | 0 => m
  | k + 1 => if es.getD k false then orTo es m k ||| 2 ^ k else orTo es m k
def metL (A B C : Rng) (m : Nat) (xs : List (Int × Int)) : Nat := xs.foldl (fun m x => orTo (endsL A B C x) m 6) m
def pairsOf (l : LedgerD) (w : Nat) (t : List Int) : List (Int × Int) := (payL l (dueV l t) w).map fun p => ((dueV l t).getD w 0, p)

theorem metL_snoc (A B C : Rng) (m : Nat) (xs : List (Int × Int)) (x : Int × Int) : metL A B C m (xs ++ [x]) = orTo (endsL A B C x) (metL A B C m xs) 6 := by unfold metL; rw [List.foldl_append]; rfl
theorem metL_app (A B C : Rng) (m : Nat) (xs ys : List (Int × Int)) : metL A B C m (xs ++ ys) = metL A B C (metL A B C m xs) ys := by unfold metL; rw [List.foldl_append]

theorem orTo_lt {es : List Bool} {m : Nat} (hm : m < 64) : ∀ {k : Nat}, k ≤ 6 → orTo es m k < 64 := by
  intro k
  induction k with
  | zero => intro _; exact hm
  | succ k ih =>
    intro hk
    have := ih (by omega)
    unfold orTo
    split
    · exact Nat.or_lt_two_pow (n := 6) this (Nat.pow_lt_pow_right (by decide) (by omega))
    · exact this
theorem orTo_bit (es : List Bool) (m : Nat) (j : Nat) : ∀ k : Nat, (orTo es m k).testBit j = (m.testBit j || (decide (j < k) && es.getD j false)) := by
  intro k
  induction k with
  | zero => simp [orTo]
  | succ k ih =>
    have e : decide (j < k + 1) = (decide (j < k) || decide (k = j)) := by
      rw [← Bool.decide_or]
      exact decide_eq_decide.2 (by omega)
    unfold orTo
    rw [e]
    split
    · rename_i h
      rw [Nat.testBit_or, ih, Nat.testBit_two_pow]
      by_cases hkj : k = j
      · subst hkj
        rw [h]
        simp
      · simp [hkj]
    · rename_i h
      rw [ih]
      by_cases hkj : k = j
      · subst hkj
        rw [show es.getD k false = false from by simpa using h]
        simp
      · simp [hkj]
theorem metL_lt {A B C : Rng} : ∀ (xs : List (Int × Int)) {m : Nat}, m < 64 → metL A B C m xs < 64 := by
  intro xs
  induction xs with
  | nil => intro m h; exact h
  | cons x xs ih => intro m h; exact ih (orTo_lt h (Nat.le_refl _))
theorem metL_bit {A B C : Rng} {j : Nat} (hj : j < 6) : ∀ (xs : List (Int × Int)) {m : Nat}, (metL A B C m xs).testBit j = (m.testBit j || xs.any fun x => (endsL A B C x).getD j false) := by
  intro xs
  induction xs with
  | nil => intro m; simp [metL]
  | cons x xs ih =>
    intro m
    have := ih (m := orTo (endsL A B C x) m 6)
    show (metL A B C (orTo (endsL A B C x) m 6) xs).testBit j = _
    rw [this, orTo_bit]
    simp [hj, Bool.or_assoc]

theorem met_full {A B C : Rng} {xs : List (Int × Int)} (h : ∀ j, j < 6 → ∃ x ∈ xs, (endsL A B C x).getD j false = true) : metL A B C 0 xs = 63 := by
  refine Nat.eq_of_testBit_eq fun j => ?_
  by_cases hj : j < 6
  · obtain ⟨x, hx, hxe⟩ := h j hj
    rw [metL_bit hj, List.any_eq_true.2 ⟨x, hx, hxe⟩]
    rcases (by omega : j = 0 ∨ j = 1 ∨ j = 2 ∨ j = 3 ∨ j = 4 ∨ j = 5) with rfl | rfl | rfl | rfl | rfl | rfl <;> decide
  · have h1 := metL_lt (A := A) (B := B) (C := C) xs (m := 0) (by decide)
    have h2 : 2 ^ 6 ≤ 2 ^ j := Nat.pow_le_pow_right (by decide) (by omega)
    rw [Nat.testBit_lt_two_pow (by omega), Nat.testBit_lt_two_pow (by omega)]

theorem ends_plain {l : LedgerD} (h : askedErr l true = 0) {w : Nat} (hw : w < l.field.weeders.toNat) :
    metL ((bndL partE l (duesT l)).getD w (0, 0)) ((bndL partP l (duesT l)).getD w (0, 0)) ((bndL partO l (duesT l)).getD w (0, 0)) 0 ((rowsL l).flatMap (pairsOf l w)) = 63 := by
  obtain ⟨hS, hp⟩ := asked_ok h
  have hw3 := (soundF_of hS.field).weed1
  have hull := fun p => bnd_hull hp p hw
  have hx : ∀ t ∈ truthsF l.field [], canPay l [] (duesV l.rate t) = true → ∀ x, ((paidL l [] (duesV l.rate t)).getD w (0, 0)).1 ≤ x → x ≤ ((paidL l [] (duesV l.rate t)).getD w (0, 0)).2 → ((duesV l.rate t).getD w 0, x) ∈ (rowsL l).flatMap (pairsOf l w) := by
    intro t ht hc x h1 h2
    have := mem_payL hS (dueV_length hS t) (dueV_bd hS (row_len hS ht)) (w := w) (by rw [dueV_length hS]; exact hw) (by rw [dueV_at, canPay_take]; exact hc) (x := x)
    rw [dueV_at, paidL_take] at this
    refine List.mem_flatMap.2 ⟨t, (mem_rowsL hS).2 ⟨ht, hc⟩, List.mem_map.2 ⟨x, ?_, ?_⟩⟩
    · rw [dueV_at]
      exact this.2 ⟨h1, h2⟩
    · rw [due_get t hw]
  have hne : ∀ t ∈ truthsF l.field [], canPay l [] (duesV l.rate t) = true → ((paidL l [] (duesV l.rate t)).getD w (0, 0)).1 ≤ ((paidL l [] (duesV l.rate t)).getD w (0, 0)).2 := by
    intro t ht hc
    have := paidL_bd hS (mem_duesT.2 ⟨t, ht, rfl⟩) hc hw
    exact this.2.1
  refine met_full fun j hj => ?_
  rcases (by omega : j = 0 ∨ j = 1 ∨ j = 2 ∨ j = 3 ∨ j = 4 ∨ j = 5) with rfl | rfl | rfl | rfl | rfl | rfl
  · obtain ⟨y, ⟨d, hd, hc, rfl⟩, hy⟩ := (hull partE).low.1
    obtain ⟨t, ht, rfl⟩ := mem_duesT.1 hd
    exact ⟨_, hx t ht hc _ (Int.le_refl _) (hne t ht hc), beq_iff_eq.2 hy⟩
  · obtain ⟨y, ⟨d, hd, hc, rfl⟩, hy⟩ := (hull partE).high.1
    obtain ⟨t, ht, rfl⟩ := mem_duesT.1 hd
    exact ⟨_, hx t ht hc _ (Int.le_refl _) (hne t ht hc), beq_iff_eq.2 hy⟩
  · obtain ⟨y, ⟨d, hd, hc, rfl⟩, hy⟩ := (hull partP).low.1
    obtain ⟨t, ht, rfl⟩ := mem_duesT.1 hd
    exact ⟨_, hx t ht hc _ (Int.le_refl _) (hne t ht hc), beq_iff_eq.2 hy⟩
  · obtain ⟨y, ⟨d, hd, hc, rfl⟩, hy⟩ := (hull partP).high.1
    obtain ⟨t, ht, rfl⟩ := mem_duesT.1 hd
    exact ⟨_, hx t ht hc _ (hne t ht hc) (Int.le_refl _), beq_iff_eq.2 hy⟩
  · obtain ⟨y, ⟨d, hd, hc, rfl⟩, hy⟩ := (hull partO).low.1
    obtain ⟨t, ht, rfl⟩ := mem_duesT.1 hd
    exact ⟨_, hx t ht hc _ (hne t ht hc) (Int.le_refl _), beq_iff_eq.2 hy⟩
  · obtain ⟨y, ⟨d, hd, hc, rfl⟩, hy⟩ := (hull partO).high.1
    obtain ⟨t, ht, rfl⟩ := mem_duesT.1 hd
    exact ⟨_, hx t ht hc _ (Int.le_refl _) (hne t ht hc), beq_iff_eq.2 hy⟩
end Go.Proofs.YtdjgikcnmokjkaaGreat
