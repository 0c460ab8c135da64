/-
  The field of chapter 1 in plain Lean: what is valid, who did how many rows, the truths. No program in sight.
-/
import Derived.WalkKit
import Derived.WalkLawsBesides
import Derived.WalkSpells
import Derived.Outline
import Derived.Handy
import Derived.KernelRfl
import Derived.Lib.Hide
import Derived.Test.YtdjgikcnmokjkaaMA
namespace Go.Proofs.Ytdjgikcnmokjkaa
open Cou

abbrev Tly := Int × Int × Int × Rng

structure FieldD where
  rows : Int
  weeders : Int
  left : Rng
  tallies : List Tly

def okTally (f : FieldD) (t : Tly) : Bool := inB t.1 0 (f.weeders - 1) && inB t.2.1 0 (f.rows - 1) && inB t.2.2.1 0 (f.rows - 1) && decide (t.2.1 ≤ t.2.2.1) && okR t.2.2.2 f.rows
def faultF (f : FieldD) : Int :=
  if 7 < f.rows ∨ 3 < f.weeders ∨ 5 < f.tallies.length then 3
  else if f.rows < 1 ∨ f.weeders < 1 ∨ okR f.left f.rows = false ∨ f.tallies.all (okTally f) = false then 1
  else if 2500 < (f.weeders + 1) ^ f.rows.toNat then 3 else 0

/-- What a field without an error is. -/
structure SoundF (f : FieldD) : Prop where
  rows0 : 1 ≤ f.rows
  rows1 : f.rows ≤ 7
  weed0 : 1 ≤ f.weeders
  weed1 : f.weeders ≤ 3
  tals : f.tallies.length ≤ 5
  left : 0 ≤ f.left.1 ∧ f.left.1 ≤ f.left.2 ∧ f.left.2 ≤ f.rows
  tal : ∀ t ∈ f.tallies, (0 ≤ t.1 ∧ t.1 < f.weeders) ∧ (0 ≤ t.2.1 ∧ t.2.1 ≤ t.2.2.1 ∧ t.2.2.1 < f.rows) ∧ (0 ≤ t.2.2.2.1 ∧ t.2.2.2.1 ≤ t.2.2.2.2 ∧ t.2.2.2.2 ≤ f.rows)
  many : (f.weeders + 1) ^ f.rows.toNat ≤ 2500

theorem soundF_of {f : FieldD} (hf : faultF f = 0) : SoundF f := by
  unfold faultF at hf
  split at hf
  · omega
  · rename_i h1
    split at hf
    · omega
    · rename_i h2
      split at hf
      · omega
      · rename_i h3
        simp only [not_or] at h1 h2
        obtain ⟨a1, a2, a3⟩ := h1
        obtain ⟨b1, b2, b3, b4⟩ := h2
        have b3' : okR f.left f.rows = true := by simpa using b3
        have b4' : f.tallies.all (okTally f) = true := by simpa using b4
        rw [List.all_eq_true] at b4'
        simp only [okR, Bool.and_eq_true, decide_eq_true_eq] at b3'
        refine ⟨by omega, by omega, by omega, by omega, by omega, ⟨by omega, by omega, by omega⟩, fun t ht => ?_, by omega⟩
        have := b4' t ht
        simp only [okTally, inB, okR, Bool.and_eq_true, decide_eq_true_eq] at this
        omega

/-- How many rows of a stretch somebody did. -/
def didL (l : List Int) (who : Int) (a n : Nat) : Int := ((List.range' a n).countP fun i => l.getD i 0 == who : Nat)
def didT (l : List Int) (who lo hi : Int) : Int := didL l who lo.toNat (hi + 1 - lo).toNat

/-- Whether all tallies but some are right, and as many rows were left as can be. -/
def tallyR (l : List Int) (t : Tly) : Bool := inB (didT l t.1 t.2.1 t.2.2.1) t.2.2.2.1 t.2.2.2.2
def rightF (f : FieldD) (out : List Int) (l : List Int) : Bool :=
  ((List.range f.tallies.length).all fun i => out.contains (i : Int) || tallyR l (f.tallies.getD i (0, 0, 0, (0, 0)))) && inB (didT l (-1) 0 (f.rows - 1)) f.left.1 f.left.2

/-- All lists that say something of each row, in order; the truths. -/
def rangesF (f : FieldD) : List Rng := List.replicate f.rows.toNat (-1, f.weeders - 1)
def allF (f : FieldD) : List (List Int) := prodL (rangesF f)
def truthsF (f : FieldD) (out : List Int) : List (List Int) := (allF f).filter (rightF f out)

theorem rangesF_sz {f : FieldD} (hS : SoundF f) : ∀ r ∈ rangesF f, 1 ≤ sizeR r := fun r hr => by
  obtain rfl := List.eq_of_mem_replicate hr
  have := hS.weed0
  unfold sizeR
  simp only
  omega

theorem prodL_ofV : ∀ (rs : List Rng) (x : List Int), x.length = rs.length → (∀ i, i < rs.length → (rs.getD i (0, 0)).1 ≤ x.getD i 0 ∧ x.getD i 0 ≤ (rs.getD i (0, 0)).2) → x ∈ prodL rs := by
  intro rs
  induction rs with
  | nil => intro x hx _; obtain rfl := List.eq_nil_of_length_eq_zero hx; simp [prodL]
  | cons r rs ih =>
    intro x hx hb
    cases x with
    | nil => simp at hx
    | cons a x =>
      have h0 := hb 0 (by simp)
      simp only [prodL, List.mem_flatMap, List.mem_map]
      exact ⟨a, mem_rangeL.2 (by simpa using h0), x, ih x (by simpa using hx) (fun i hi => by simpa using hb (i + 1) (by simpa using hi)), rfl⟩

/-- A list is one of them if and only if it says something of each row. -/
theorem mem_allF {f : FieldD} {l : List Int} : l ∈ allF f ↔ l.length = f.rows.toNat ∧ ∀ i, i < f.rows.toNat → -1 ≤ l.getD i 0 ∧ l.getD i 0 ≤ f.weeders - 1 := by
  have hg : ∀ i, i < f.rows.toNat → (rangesF f).getD i (0, 0) = (-1, f.weeders - 1) := fun i hi => by
    unfold rangesF
    rw [List.getD_eq_getElem?_getD, List.getElem?_replicate, if_pos hi]
    rfl
  have hl : (rangesF f).length = f.rows.toNat := by unfold rangesF; simp
  unfold allF
  constructor
  · intro hm
    obtain ⟨h1, h2⟩ := mem_prodL _ _ hm
    rw [hl] at h1 h2
    refine ⟨h1, fun i hi => ?_⟩
    have := h2 i hi
    rw [hg i hi] at this
    exact this
  · rintro ⟨h1, h2⟩
    refine prodL_ofV _ _ (by rw [hl]; exact h1) fun i hi => ?_
    rw [hl] at hi
    rw [hg i hi]
    exact h2 i hi

/-- The list with a number, by the reference; all of them are met. -/
theorem nthF_mem {f : FieldD} (hS : SoundF f) (n : Int) : nthW (rangesF f) n ∈ allF f := nthW_mem _ n (rangesF_sz hS)
theorem nthF_all {f : FieldD} (hS : SoundF f) {l : List Int} (hl : l ∈ allF f) : ∃ n, 0 ≤ n ∧ n < prod (rangesF f) ∧ nthW (rangesF f) n = l := nthW_all _ (rangesF_sz hS) l hl
theorem prod_rangesF (f : FieldD) : prod (rangesF f) = (f.weeders + 1) ^ f.rows.toNat := by
  unfold rangesF
  induction f.rows.toNat with
  | zero => simp [prod]
  | succ k ih =>
    rw [List.replicate_succ]
    show sizeR (-1, f.weeders - 1) * prod (List.replicate k (-1, f.weeders - 1)) = _
    rw [ih, Int.pow_succ, Int.mul_comm]
    congr 1
    unfold sizeR
    simp only
    omega

end Go.Proofs.Ytdjgikcnmokjkaa
