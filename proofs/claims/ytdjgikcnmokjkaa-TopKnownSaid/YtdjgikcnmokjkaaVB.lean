/-
  The ledger of chapter 9 in plain Lean: sums of intervals. No program in sight.
-/
import Derived.WalkKit
import Derived.WalkLawsBesides
import Derived.WalkSpells
import Derived.Outline
import Derived.Handy
import Derived.KernelRfl
import Derived.Lib.Hide
import Derived.Test.YtdjgikcnmokjkaaVA
namespace Go.Proofs.Ytdjgikcnmokjkaa
open Cou

structure LedgerD where
  field : FieldD
  rate : Int
  box : Rng
  notes : List (Int × Rng)

/-- What two ranges have in common. -/
def bothR (r x : Rng) : Rng := (max r.1 x.1, min r.2 x.2)
/-- The due of a weeder, by rows. -/
def dueL (l : LedgerD) (rows : List Int) (i : Nat) : Int := l.rate * didT rows (i : Int) 0 (l.field.rows - 1)
/-- What a weeder can have been paid, by the due and all notes but some. -/
def knownL (l : LedgerD) (out : List Int) (i : Nat) (due : Int) : Rng :=
  ((List.range l.notes.length).filter fun (k : Nat) => !out.contains (k : Int) && (l.notes.getD k (0, (0, 0))).1 == (i : Int)).foldl (fun r k => bothR r (l.notes.getD k (0, (0, 0))).2) (0, due)

theorem bothR_in {r x : Rng} {n : Int} : inB n (bothR r x).1 (bothR r x).2 = (inB n r.1 r.2 && inB n x.1 x.2) := by
  unfold bothR inB
  rw [Bool.eq_iff_iff]
  simp only [Bool.and_eq_true, decide_eq_true_eq]
  omega

/-- A number of pence is in what is known if and only if all notes that count have it. -/
theorem foldl_both {ks : List Nat} {f : Nat → Rng} {n : Int} : ∀ r : Rng, inB n (ks.foldl (fun r k => bothR r (f k)) r).1 (ks.foldl (fun r k => bothR r (f k)) r).2 = (inB n r.1 r.2 && ks.all fun k => inB n (f k).1 (f k).2) := by
  induction ks with
  | nil => intro r; simp
  | cons k ks ih =>
    intro r
    rw [List.foldl_cons, ih, bothR_in, List.all_cons, Bool.and_assoc]

def sumI (l : List Int) : Int := l.foldr (· + ·) 0
theorem sumI_cons (x : Int) (l : List Int) : sumI (x :: l) = x + sumI l := rfl

/-- The sums of numbers of some ranges are all numbers between the sums of their ends. -/
theorem sum_ranges : ∀ (rs : List Rng), (∀ r ∈ rs, r.1 ≤ r.2) → ∀ n : Int, (sumI (rs.map (·.1)) ≤ n ∧ n ≤ sumI (rs.map (·.2))) ↔ ∃ xs : List Int, xs.length = rs.length ∧ (∀ i, i < rs.length → (rs.getD i (0, 0)).1 ≤ xs.getD i 0 ∧ xs.getD i 0 ≤ (rs.getD i (0, 0)).2) ∧ sumI xs = n := by
  intro rs
  induction rs with
  | nil =>
    intro _ n
    constructor
    · rintro ⟨h1, h2⟩
      exact ⟨[], rfl, fun i hi => by simp at hi, by simp [sumI] at h1 h2 ⊢; omega⟩
    · rintro ⟨xs, hx, _, hs⟩
      obtain rfl := List.eq_nil_of_length_eq_zero hx
      simp [sumI] at hs ⊢
      omega
  | cons r rs ih =>
    intro hr n
    have hr0 := hr r List.mem_cons_self
    have ih' := ih (fun x hx => hr x (List.mem_cons_of_mem _ hx))
    have hle : sumI (rs.map (·.1)) ≤ sumI (rs.map (·.2)) := by
      have : ∀ l : List Rng, (∀ r ∈ l, r.1 ≤ r.2) → sumI (l.map (·.1)) ≤ sumI (l.map (·.2)) := by
        intro l
        induction l with
        | nil => intro _; exact Int.le_refl _
        | cons x l ihl =>
          intro hl
          have h1 := hl x List.mem_cons_self
          have h2 := ihl (fun y hy => hl y (List.mem_cons_of_mem _ hy))
          simp only [List.map_cons, sumI_cons]
          omega
      exact this rs (fun x hx => hr x (List.mem_cons_of_mem _ hx))
    simp only [List.map_cons, sumI_cons]
    constructor
    · rintro ⟨h1, h2⟩
      -- the first number: as great as can be, but not so great that the others cannot follow
      obtain ⟨x, hx⟩ : ∃ x, x = max r.1 (n - sumI (rs.map (·.2))) := ⟨_, rfl⟩
      obtain ⟨xs, k1, k2, k3⟩ := (ih' (n - x)).1 (by omega)
      refine ⟨x :: xs, by simp [k1], fun i hi => ?_, by rw [sumI_cons, k3]; omega⟩
      cases i with
      | zero => simp; omega
      | succ i => simpa using k2 i (by simpa using hi)
    · rintro ⟨xs, k1, k2, k3⟩
      cases xs with
      | nil => simp at k1
      | cons x xs =>
        have h0 := k2 0 (by simp)
        simp only [List.getD_cons_zero] at h0
        rw [sumI_cons] at k3
        have := (ih' (n - x)).2 ⟨xs, by simpa using k1, fun i hi => by simpa using k2 (i + 1) (by simpa using hi), by omega⟩
        omega

/-- With what the others can have been paid together, a number of pence makes a number of the box. -/
theorem with_others {p low high : Int} {box : Rng} (h : low ≤ high) (hb : box.1 ≤ box.2) : (∃ s, low ≤ s ∧ s ≤ high ∧ box.1 ≤ p + s ∧ p + s ≤ box.2) ↔ box.1 - high ≤ p ∧ p ≤ box.2 - low := by
  constructor
  · rintro ⟨s, h1, h2, h3, h4⟩
    omega
  · rintro ⟨h1, h2⟩
    exact ⟨max low (box.1 - p), by omega, by omega, by omega, by omega⟩

/-- All together make a number of the box. -/
theorem together {low high : Int} {box : Rng} (h : low ≤ high) (hb : box.1 ≤ box.2) : (∃ s, low ≤ s ∧ s ≤ high ∧ box.1 ≤ s ∧ s ≤ box.2) ↔ low ≤ box.2 ∧ box.1 ≤ high := by
  constructor
  · rintro ⟨s, h1, h2, h3, h4⟩
    omega
  · rintro ⟨h1, h2⟩
    exact ⟨max low box.1, by omega, by omega, by omega, by omega⟩

/-! ### What the ledger at work answers -/
/-- What each weeder can have been paid, alone. -/
def alone (l : LedgerD) (out : List Int) (dues : List Int) : List Rng := (List.range l.field.weeders.toNat).map fun i => knownL l out i (dues.getD i 0)
def lowL (l : LedgerD) (out dues : List Int) : Int := sumI ((alone l out dues).map (·.1))
def highL (l : LedgerD) (out dues : List Int) : Int := sumI ((alone l out dues).map (·.2))
/-- Whether there is a truth with some dues, without some notes. -/
def canPay (l : LedgerD) (out dues : List Int) : Bool := (alone l out dues).all (fun r => decide (r.1 ≤ r.2)) && decide (lowL l out dues ≤ l.box.2) && decide (l.box.1 ≤ highL l out dues)
/-- What each weeder can have been paid, with the box. -/
def paidL (l : LedgerD) (out dues : List Int) : List Rng :=
  (alone l out dues).map fun r => bothR r (l.box.1 - (highL l out dues - r.2), l.box.2 - (lowL l out dues - r.1))

/-- There is a truth with some dues if and only if some payments, each one alone possible, make a number of the box. -/
theorem canPay_iff {l : LedgerD} {out dues : List Int} (hb : l.box.1 ≤ l.box.2) : canPay l out dues = true ↔ ∃ xs : List Int, xs.length = (alone l out dues).length ∧ (∀ i, i < (alone l out dues).length → ((alone l out dues).getD i (0, 0)).1 ≤ xs.getD i 0 ∧ xs.getD i 0 ≤ ((alone l out dues).getD i (0, 0)).2) ∧ l.box.1 ≤ sumI xs ∧ sumI xs ≤ l.box.2 := by
  unfold canPay
  simp only [Bool.and_eq_true, List.all_eq_true, decide_eq_true_eq]
  have hle : (∀ r ∈ alone l out dues, r.1 ≤ r.2) → lowL l out dues ≤ highL l out dues := fun h => by
    unfold lowL highL
    generalize alone l out dues = rs at h
    induction rs with
    | nil => exact Int.le_refl _
    | cons x rs ih =>
      have h1 := h x List.mem_cons_self
      have h2 := ih (fun y hy => h y (List.mem_cons_of_mem _ hy))
      simp only [List.map_cons, sumI_cons]
      omega
  constructor
  · rintro ⟨⟨h1, h2⟩, h3⟩
    obtain ⟨s, k1, k2, k3, k4⟩ := (together (hle h1) hb).2 ⟨h2, h3⟩
    obtain ⟨xs, x1, x2, x3⟩ := (sum_ranges _ h1 s).1 ⟨k1, k2⟩
    exact ⟨xs, x1, x2, by omega, by omega⟩
  · rintro ⟨xs, x1, x2, x3, x4⟩
    have hr : ∀ r ∈ alone l out dues, r.1 ≤ r.2 := fun r hr => by
      obtain ⟨i, hi, rfl⟩ := List.getElem_of_mem hr
      have := x2 i hi
      rw [show (alone l out dues).getD i (0, 0) = (alone l out dues)[i] from by simp [List.getD, hi]] at this
      omega
    obtain ⟨k1, k2⟩ := (sum_ranges _ hr (sumI xs)).2 ⟨xs, x1, x2, rfl⟩
    obtain ⟨m1, m2⟩ := (together (hle hr) hb).1 ⟨sumI xs, k1, k2, x3, x4⟩
    exact ⟨⟨hr, m1⟩, m2⟩

end Go.Proofs.Ytdjgikcnmokjkaa
