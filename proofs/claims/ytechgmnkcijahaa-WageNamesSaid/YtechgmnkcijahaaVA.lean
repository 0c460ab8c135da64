/-
  The field of chapter 1 in plain Lean: what is valid, who did how many rows, the truths. No program in sight.
  Which rows settle a weeder of a field, or all of them; the fewest ones. No program in sight.
  The ledger of chapter 9 in plain Lean: sums of intervals. No program in sight.
  The dues of all weeders, by rows; the dues in all truths; the error of a ledger. No program in sight.
  What weeders can have been paid, by the notes that are left. No program in sight.
  What is bounded of a ledger: what was earned, paid, owed; and what the reference goes through, penny by penny. No program in sight.
  Plain: money is shared: rests in falling order, stably; the same as penny by penny.
  Plain: bounds of shares, over all dues that can be paid.
-/
import Derived.WalkKit
import Derived.WalkLawsBesides
import Derived.WalkSpells
import Derived.Outline
import Derived.Handy
import Derived.KernelRfl
import Derived.Lib.Hide
import Derived.Test.YtechgmnkcijahaaMA
namespace Go.Proofs.Ytechgmnkcijahaa
open Cou

abbrev Tly := Int × Int × Int × Rng

structure FieldD where
  rows : Int
  weeders : Int
  left : Rng
  tallies : List Tly

def okTally (f : FieldD) (t : Tly) : Bool := inB t.1 0 (f.weeders - 1) && inB t.2.1 0 (f.rows - 1) && inB t.2.2.1 0 (f.rows - 1) && decide (t.2.1 ≤ t.2.2.1) && okR t.2.2.2 f.rows
def faultF (f : FieldD) : Int :=
  if 7 < f.rows ∨ 3 < f.weeders ∨ 5 < f.tallies.length then 3
  else if f.rows < 1 ∨ f.weeders < 1 ∨ okR f.left f.rows = false ∨ f.tallies.all (okTally f) = false then 1
  else if 2500 < (f.weeders + 1) ^ f.rows.toNat then 3 else 0

/-- What a field without an error is. -/
structure SoundF (f : FieldD) : Prop where
  rows0 : 1 ≤ f.rows
  rows1 : f.rows ≤ 7
  weed0 : 1 ≤ f.weeders
  weed1 : f.weeders ≤ 3
  tals : f.tallies.length ≤ 5
  left : 0 ≤ f.left.1 ∧ f.left.1 ≤ f.left.2 ∧ f.left.2 ≤ f.rows
  tal : ∀ t ∈ f.tallies, (0 ≤ t.1 ∧ t.1 < f.weeders) ∧ (0 ≤ t.2.1 ∧ t.2.1 ≤ t.2.2.1 ∧ t.2.2.1 < f.rows) ∧ (0 ≤ t.2.2.2.1 ∧ t.2.2.2.1 ≤ t.2.2.2.2 ∧ t.2.2.2.2 ≤ f.rows)
  many : (f.weeders + 1) ^ f.rows.toNat ≤ 2500

theorem soundF_of {f : FieldD} (hf : faultF f = 0) : SoundF f := by
  unfold faultF at hf
  split at hf
  · omega
  · rename_i h1
    split at hf
    · omega
    · rename_i h2
      split at hf
      · omega
      · rename_i h3
        simp only [not_or] at h1 h2
        obtain ⟨a1, a2, a3⟩ := h1
        obtain ⟨b1, b2, b3, b4⟩ := h2
        have b3' : okR f.left f.rows = true := by simpa using b3
        have b4' : f.tallies.all (okTally f) = true := by simpa using b4
        rw [List.all_eq_true] at b4'
        simp only [okR, Bool.and_eq_true, decide_eq_true_eq] at b3'
        refine ⟨by omega, by omega, by omega, by omega, by omega, ⟨by omega, by omega, by omega⟩, fun t ht => ?_, by omega⟩
        have := b4' t ht
        simp only [okTally, inB, okR, Bool.and_eq_true, decide_eq_true_eq] at this
        omega

/-- How many rows of a stretch somebody did. -/
def didL (l : List Int) (who : Int) (a n : Nat) : Int := ((List.range' a n).countP fun i => l.getD i 0 == who : Nat)
def didT (l : List Int) (who lo hi : Int) : Int := didL l who lo.toNat (hi + 1 - lo).toNat

/-- Whether all tallies but some are right, and as many rows were left as can be. -/
def tallyR (l : List Int) (t : Tly) : Bool := inB (didT l t.1 t.2.1 t.2.2.1) t.2.2.2.1 t.2.2.2.2
def rightF (f : FieldD) (out : List Int) (l : List Int) : Bool :=
  ((List.range f.tallies.length).all fun i => out.contains (i : Int) || tallyR l (f.tallies.getD i (0, 0, 0, (0, 0)))) && inB (didT l (-1) 0 (f.rows - 1)) f.left.1 f.left.2

/-- All lists that say something of each row, in order; the truths. -/
def rangesF (f : FieldD) : List Rng := List.replicate f.rows.toNat (-1, f.weeders - 1)
def allF (f : FieldD) : List (List Int) := prodL (rangesF f)
def truthsF (f : FieldD) (out : List Int) : List (List Int) := (allF f).filter (rightF f out)

theorem rangesF_sz {f : FieldD} (hS : SoundF f) : ∀ r ∈ rangesF f, 1 ≤ sizeR r := fun r hr => by
  obtain rfl := List.eq_of_mem_replicate hr
  have := hS.weed0
  unfold sizeR
  simp only
  omega

theorem prodL_ofV : ∀ (rs : List Rng) (x : List Int), x.length = rs.length → (∀ i, i < rs.length → (rs.getD i (0, 0)).1 ≤ x.getD i 0 ∧ x.getD i 0 ≤ (rs.getD i (0, 0)).2) → x ∈ prodL rs := by
  intro rs
  induction rs with
  | nil => intro x hx _; obtain rfl := List.eq_nil_of_length_eq_zero hx; simp [prodL]
  | cons r rs ih =>
    intro x hx hb
    cases x with
    | nil => simp at hx
    | cons a x =>
      have h0 := hb 0 (by simp)
      simp only [prodL, List.mem_flatMap, List.mem_map]
      exact ⟨a, mem_rangeL.2 (by simpa using h0), x, ih x (by simpa using hx) (fun i hi => by simpa using hb (i + 1) (by simpa using hi)), rfl⟩

/-- A list is one of them if and only if it says something of each row. -/
theorem mem_allF {f : FieldD} {l : List Int} : l ∈ allF f ↔ l.length = f.rows.toNat ∧ ∀ i, i < f.rows.toNat → -1 ≤ l.getD i 0 ∧ l.getD i 0 ≤ f.weeders - 1 := by
  have hg : ∀ i, i < f.rows.toNat → (rangesF f).getD i (0, 0) = (-1, f.weeders - 1) := fun i hi => by
    unfold rangesF
    rw [List.getD_eq_getElem?_getD, List.getElem?_replicate, if_pos hi]
    rfl
  have hl : (rangesF f).length = f.rows.toNat := by unfold rangesF; simp
  unfold allF
  constructor
  · intro hm
    obtain ⟨h1, h2⟩ := mem_prodL _ _ hm
    rw [hl] at h1 h2
    refine ⟨h1, fun i hi => ?_⟩
    have := h2 i hi
    rw [hg i hi] at this
    exact this
  · rintro ⟨h1, h2⟩
    refine prodL_ofV _ _ (by rw [hl]; exact h1) fun i hi => ?_
    rw [hl] at hi
    rw [hg i hi]
    exact h2 i hi

/-- The list with a number, by the reference; all of them are met. -/
theorem nthF_mem {f : FieldD} (hS : SoundF f) (n : Int) : nthW (rangesF f) n ∈ allF f := nthW_mem _ n (rangesF_sz hS)
theorem nthF_all {f : FieldD} (hS : SoundF f) {l : List Int} (hl : l ∈ allF f) : ∃ n, 0 ≤ n ∧ n < prod (rangesF f) ∧ nthW (rangesF f) n = l := nthW_all _ (rangesF_sz hS) l hl
theorem prod_rangesF (f : FieldD) : prod (rangesF f) = (f.weeders + 1) ^ f.rows.toNat := by
  unfold rangesF
  induction f.rows.toNat with
  | zero => simp [prod]
  | succ k ih =>
    rw [List.replicate_succ]
    show sizeR (-1, f.weeders - 1) * prod (List.replicate k (-1, f.weeders - 1)) = _
    rw [ih, Int.pow_succ, Int.mul_comm]
    congr 1
    unfold sizeR
    simp only
    omega

end Go.Proofs.Ytechgmnkcijahaa

namespace Go.Proofs.Ytechgmnkcijahaa
open Cou

/-- Whether two truths say the same of some rows. -/
def sameOn (rows : List Int) (a b : List Int) : Bool := rows.all fun r => a.getD r.toNat 0 == b.getD r.toNat 0
def doneF (f : FieldD) (a : List Int) (who : Int) : Int := didT a who 0 (f.rows - 1)
def settlesF (f : FieldD) (w : Int) (rows : List Int) : Bool := (truthsF f []).all fun a => (truthsF f []).all fun b => !sameOn rows a b || doneF f a w == doneF f b w
def settlesAll (f : FieldD) (rows : List Int) : Bool := (List.range f.weeders.toNat).all fun (i : Nat) => settlesF f (i : Int) rows
def askS (f : FieldD) (w : Int) : Option (List Int) := shortL f.rows.toNat (settlesF f w)
def askF (f : FieldD) (w : Int) : List Int := (askS f w).getD []
def settleS (f : FieldD) : Option (List Int) := shortL f.rows.toNat (settlesAll f)
def settleF (f : FieldD) : List Int := (settleS f).getD []

theorem settlesF_iff {f : FieldD} {w : Int} {rows : List Int} : settlesF f w rows = true ↔ ∀ a ∈ truthsF f [], ∀ b ∈ truthsF f [], sameOn rows a b = true → doneF f a w = doneF f b w := by
  unfold settlesF
  simp only [List.all_eq_true, Bool.or_eq_true, Bool.not_eq_true', beq_iff_eq]
  constructor
  · intro h a ha b hb hs
    rcases h a ha b hb with h1 | h1
    · rw [hs] at h1; cases h1
    · exact h1
  · intro h a ha b hb
    cases hs : sameOn rows a b
    · exact .inl rfl
    · exact .inr (h a ha b hb hs)

theorem sameOn_iff {rows a b : List Int} : sameOn rows a b = true ↔ ∀ r ∈ rows, a.getD r.toNat 0 = b.getD r.toNat 0 := by
  unfold sameOn
  simp only [List.all_eq_true, beq_iff_eq]

theorem truthsF_mem {f : FieldD} {out a : List Int} (h : a ∈ truthsF f out) : a ∈ allF f ∧ rightF f out a = true := List.mem_filter.1 h
theorem truthsF_len {f : FieldD} {out a : List Int} (h : a ∈ truthsF f out) : a.length = f.rows.toNat := (mem_allF.1 (truthsF_mem h).1).1

theorem settles_more {f : FieldD} {w : Int} {r s : List Int} (h : settlesF f w r = true) (hs : ∀ x ∈ r, x ∈ s) : settlesF f w s = true := by
  rw [settlesF_iff] at h ⊢
  intro a ha b hb hsame
  rw [sameOn_iff] at hsame
  exact h a ha b hb (sameOn_iff.2 fun x hx => hsame x (hs x hx))

theorem settles_full {f : FieldD} {w : Int} : settlesF f w (upto f.rows.toNat) = true := by
  rw [settlesF_iff]
  intro a ha b hb hs
  have e : a = b := by
    have la := truthsF_len ha
    have lb := truthsF_len hb
    refine List.ext_getElem (by omega) fun i h1 h2 => ?_
    have := sameOn_iff.1 hs (i : Int) (List.mem_map.2 ⟨i, List.mem_range.2 (by omega), rfl⟩)
    simpa [List.getD, h1, h2] using this
  rw [e]

theorem settlesAll_iff {f : FieldD} {rows : List Int} : settlesAll f rows = true ↔ ∀ i : Nat, i < f.weeders.toNat → settlesF f (i : Int) rows = true := by
  unfold settlesAll
  simp [List.all_eq_true]

theorem inc_upto (n : Nat) : Inc n 0 (upto n) := by
  have := inc_range n 0 n (by omega)
  unfold upto
  rw [← List.range_eq_range'] at this
  exact this

theorem askS_some (f : FieldD) (w : Int) : ∃ c, askS f w = some c := by
  cases h : askS f w with
  | some c => exact ⟨c, rfl⟩
  | none => have := shortL_none h _ (inc_upto _); rw [settles_full] at this; cases this
theorem settleS_some (f : FieldD) : ∃ c, settleS f = some c := by
  cases h : settleS f with
  | some c => exact ⟨c, rfl⟩
  | none => have := shortL_none h _ (inc_upto _); rw [settlesAll_iff.2 fun _ _ => settles_full] at this; cases this

theorem askF_spec (f : FieldD) (w : Int) : askS f w = some (askF f w) ∧ settlesF f w (askF f w) = true ∧ Inc f.rows.toNat 0 (askF f w) ∧ ∀ x, Inc f.rows.toNat 0 x → settlesF f w x = true → shorter x (askF f w) = false := by
  obtain ⟨c, hc⟩ := askS_some f w
  have : askF f w = c := by unfold askF; rw [hc]; rfl
  rw [this]
  exact ⟨hc, shortL_some hc⟩
theorem settleF_spec (f : FieldD) : settleS f = some (settleF f) ∧ settlesAll f (settleF f) = true ∧ Inc f.rows.toNat 0 (settleF f) ∧ ∀ x, Inc f.rows.toNat 0 x → settlesAll f x = true → shorter x (settleF f) = false := by
  obtain ⟨c, hc⟩ := settleS_some f
  have : settleF f = c := by unfold settleF; rw [hc]; rfl
  rw [this]
  exact ⟨hc, shortL_some hc⟩

theorem le_of_not_shorter {a b : List Int} (h : shorter a b = false) : b.length ≤ a.length := by
  unfold shorter at h
  simp only [Bool.or_eq_false_iff, decide_eq_false_iff_not] at h
  omega

/-- The rows that settle one weeder are at most as many as those that settle all. -/
theorem ask_le (f : FieldD) {i : Nat} (hi : i < f.weeders.toNat) : (askF f (i : Int)).length ≤ (settleF f).length := by
  obtain ⟨_, h1, h2, _⟩ := settleF_spec f
  exact le_of_not_shorter ((askF_spec f (i : Int)).2.2.2 _ h2 (settlesAll_iff.1 h1 i hi))

/-- A list that has the rows of each weeder is at least as long as the one that settles all. -/
theorem settle_le (f : FieldD) {x : List Int} (hx : Inc f.rows.toNat 0 x) (h : ∀ i : Nat, i < f.weeders.toNat → ∀ r ∈ askF f (i : Int), r ∈ x) : (settleF f).length ≤ x.length :=
  le_of_not_shorter ((settleF_spec f).2.2.2 _ hx (settlesAll_iff.2 fun i hi => settles_more (askF_spec f (i : Int)).2.1 (h i hi)))

/-- What a truth says of some rows, and 0 elsewhere: a key. -/
def keyF (rows a : List Int) : List Int := (List.range 7).map fun (i : Nat) => if rows.contains (i : Int) then a.getD i 0 else 0
theorem keyF_len (rows a : List Int) : (keyF rows a).length = 7 := by simp [keyF]
theorem keyF_get (rows a : List Int) {i : Nat} (hi : i < 7) : (keyF rows a).getD i 0 = if rows.contains (i : Int) then a.getD i 0 else 0 := by
  unfold keyF
  rw [List.getD_eq_getElem?_getD, List.getElem?_map, List.getElem?_range hi]
  rfl
theorem ext7 {a b : List Int} (ha : a.length = 7) (hb : b.length = 7) (h : ∀ i, i < 7 → a.getD i 0 = b.getD i 0) : a = b := by
  refine List.ext_getElem (by omega) fun i h1 h2 => ?_
  have := h i (by omega)
  simpa [List.getD, h1, h2] using this
theorem keyF_nil (a : List Int) : keyF [] a = List.replicate 7 0 := rfl
theorem keyF_snoc (rs a : List Int) (r : Int) (h0 : 0 ≤ r) (h7 : r < 7) : (keyF rs a).set r.toNat (a.getD r.toNat 0) = keyF (rs ++ [r]) a := by
  refine ext7 (by simp [keyF_len]) (keyF_len _ _) fun i hi => ?_
  rw [keyF_get _ _ hi]
  by_cases e : r.toNat = i
  · have : r = (i : Int) := by omega
    subst this
    simp [List.getD_eq_getElem?_getD, keyF_len, hi]
  · have hne : ((i : Int) == r) = false := by simp; omega
    rw [List.getD_eq_getElem?_getD, List.getElem?_set_ne e, ← List.getD_eq_getElem?_getD, keyF_get _ _ hi]
    simp only [List.contains_append, List.contains_cons, hne, List.contains_nil, Bool.or_false]
theorem keyF_eq {rows a b : List Int} (hr : ∀ r ∈ rows, 0 ≤ r ∧ r < 7) : keyF rows a = keyF rows b ↔ sameOn rows a b = true := by
  rw [sameOn_iff]
  constructor
  · intro h r hm
    obtain ⟨h0, h7⟩ := hr r hm
    have e := congrArg (fun l => l.getD r.toNat 0) h
    simp only [keyF_get _ _ (show r.toNat < 7 by omega)] at e
    have hc : rows.contains ((r.toNat : Nat) : Int) = true := by rw [show ((r.toNat : Nat) : Int) = r from by omega]; simpa using hm
    rw [hc] at e
    simpa using e
  · intro h
    refine ext7 (keyF_len _ _) (keyF_len _ _) fun i hi => ?_
    rw [keyF_get _ _ hi, keyF_get _ _ hi]
    cases hc : rows.contains (i : Int)
    · rfl
    · have := h (i : Int) (by simpa using hc)
      simpa using this

end Go.Proofs.Ytechgmnkcijahaa

namespace Go.Proofs.Ytechgmnkcijahaa
open Cou

structure LedgerD where
  field : FieldD
  rate : Int
  box : Rng
  notes : List (Int × Rng)

/-- What two ranges have in common. -/
def bothR (r x : Rng) : Rng := (max r.1 x.1, min r.2 x.2)
/-- The due of a weeder, by rows. -/
def dueL (l : LedgerD) (rows : List Int) (i : Nat) : Int := l.rate * didT rows (i : Int) 0 (l.field.rows - 1)
/-- What a weeder can have been paid, by the due and all notes but some. -/
def knownL (l : LedgerD) (out : List Int) (i : Nat) (due : Int) : Rng :=
  ((List.range l.notes.length).filter fun (k : Nat) => !out.contains (k : Int) && (l.notes.getD k (0, (0, 0))).1 == (i : Int)).foldl (fun r k => bothR r (l.notes.getD k (0, (0, 0))).2) (0, due)

theorem bothR_in {r x : Rng} {n : Int} : inB n (bothR r x).1 (bothR r x).2 = (inB n r.1 r.2 && inB n x.1 x.2) := by
  unfold bothR inB
  rw [Bool.eq_iff_iff]
  simp only [Bool.and_eq_true, decide_eq_true_eq]
  omega

/-- A number of pence is in what is known if and only if all notes that count have it. -/
theorem foldl_both {ks : List Nat} {f : Nat → Rng} {n : Int} : ∀ r : Rng, inB n (ks.foldl (fun r k => bothR r (f k)) r).1 (ks.foldl (fun r k => bothR r (f k)) r).2 = (inB n r.1 r.2 && ks.all fun k => inB n (f k).1 (f k).2) := by
  induction ks with
  | nil => intro r; simp
  | cons k ks ih =>
    intro r
    rw [List.foldl_cons, ih, bothR_in, List.all_cons, Bool.and_assoc]

def sumI (l : List Int) : Int := l.foldr (· + ·) 0
theorem sumI_cons (x : Int) (l : List Int) : sumI (x :: l) = x + sumI l := rfl

/-- The sums of numbers of some ranges are all numbers between the sums of their ends. -/
theorem sum_ranges : ∀ (rs : List Rng), (∀ r ∈ rs, r.1 ≤ r.2) → ∀ n : Int, (sumI (rs.map (·.1)) ≤ n ∧ n ≤ sumI (rs.map (·.2))) ↔ ∃ xs : List Int, xs.length = rs.length ∧ (∀ i, i < rs.length → (rs.getD i (0, 0)).1 ≤ xs.getD i 0 ∧ xs.getD i 0 ≤ (rs.getD i (0, 0)).2) ∧ sumI xs = n := by
  intro rs
  induction rs with
  | nil =>
    intro _ n
    constructor
    · rintro ⟨h1, h2⟩
      exact ⟨[], rfl, fun i hi => by simp at hi, by simp [sumI] at h1 h2 ⊢; omega⟩
    · rintro ⟨xs, hx, _, hs⟩
      obtain rfl := List.eq_nil_of_length_eq_zero hx
      simp [sumI] at hs ⊢
      omega
  | cons r rs ih =>
    intro hr n
    have hr0 := hr r List.mem_cons_self
    have ih' := ih (fun x hx => hr x (List.mem_cons_of_mem _ hx))
    have hle : sumI (rs.map (·.1)) ≤ sumI (rs.map (·.2)) := by
      have : ∀ l : List Rng, (∀ r ∈ l, r.1 ≤ r.2) → sumI (l.map (·.1)) ≤ sumI (l.map (·.2)) := by
        intro l
        induction l with
        | nil => intro _; exact Int.le_refl _
        | cons x l ihl =>
          intro hl
          have h1 := hl x List.mem_cons_self
          have h2 := ihl (fun y hy => hl y (List.mem_cons_of_mem _ hy))
          simp only [List.map_cons, sumI_cons]
          omega
      exact this rs (fun x hx => hr x (List.mem_cons_of_mem _ hx))
    simp only [List.map_cons, sumI_cons]
    constructor
    · rintro ⟨h1, h2⟩
      -- the first number: as great as can be, but not so great that the others cannot follow
      obtain ⟨x, hx⟩ : ∃ x, x = max r.1 (n - sumI (rs.map (·.2))) := ⟨_, rfl⟩
      obtain ⟨xs, k1, k2, k3⟩ := (ih' (n - x)).1 (by omega)
      refine ⟨x :: xs, by simp [k1], fun i hi => ?_, by rw [sumI_cons, k3]; omega⟩
      cases i with
      | zero => simp; omega
      | succ i => simpa using k2 i (by simpa using hi)
    · rintro ⟨xs, k1, k2, k3⟩
      cases xs with
      | nil => simp at k1
      | cons x xs =>
        have h0 := k2 0 (by simp)
        simp only [List.getD_cons_zero] at h0
        rw [sumI_cons] at k3
        have := (ih' (n - x)).2 ⟨xs, by simpa using k1, fun i hi => by simpa using k2 (i + 1) (by simpa using hi), by omega⟩
        omega

/-- With what the others can have been paid together, a number of pence makes a number of the box. -/
theorem with_others {p low high : Int} {box : Rng} (h : low ≤ high) (hb : box.1 ≤ box.2) : (∃ s, low ≤ s ∧ s ≤ high ∧ box.1 ≤ p + s ∧ p + s ≤ box.2) ↔ box.1 - high ≤ p ∧ p ≤ box.2 - low := by
  constructor
  · rintro ⟨s, h1, h2, h3, h4⟩
    omega
  · rintro ⟨h1, h2⟩
    exact ⟨max low (box.1 - p), by omega, by omega, by omega, by omega⟩

/-- All together make a number of the box. -/
theorem together {low high : Int} {box : Rng} (h : low ≤ high) (hb : box.1 ≤ box.2) : (∃ s, low ≤ s ∧ s ≤ high ∧ box.1 ≤ s ∧ s ≤ box.2) ↔ low ≤ box.2 ∧ box.1 ≤ high := by
  constructor
  · rintro ⟨s, h1, h2, h3, h4⟩
    omega
  · rintro ⟨h1, h2⟩
    exact ⟨max low box.1, by omega, by omega, by omega, by omega⟩

/-! ### What the ledger at work answers -/
/-- What each weeder can have been paid, alone. -/
def alone (l : LedgerD) (out : List Int) (dues : List Int) : List Rng := (List.range l.field.weeders.toNat).map fun i => knownL l out i (dues.getD i 0)
def lowL (l : LedgerD) (out dues : List Int) : Int := sumI ((alone l out dues).map (·.1))
def highL (l : LedgerD) (out dues : List Int) : Int := sumI ((alone l out dues).map (·.2))
/-- Whether there is a truth with some dues, without some notes. -/
def canPay (l : LedgerD) (out dues : List Int) : Bool := (alone l out dues).all (fun r => decide (r.1 ≤ r.2)) && decide (lowL l out dues ≤ l.box.2) && decide (l.box.1 ≤ highL l out dues)
/-- What each weeder can have been paid, with the box. -/
def paidL (l : LedgerD) (out dues : List Int) : List Rng :=
  (alone l out dues).map fun r => bothR r (l.box.1 - (highL l out dues - r.2), l.box.2 - (lowL l out dues - r.1))

/-- There is a truth with some dues if and only if some payments, each one alone possible, make a number of the box. -/
theorem canPay_iff {l : LedgerD} {out dues : List Int} (hb : l.box.1 ≤ l.box.2) : canPay l out dues = true ↔ ∃ xs : List Int, xs.length = (alone l out dues).length ∧ (∀ i, i < (alone l out dues).length → ((alone l out dues).getD i (0, 0)).1 ≤ xs.getD i 0 ∧ xs.getD i 0 ≤ ((alone l out dues).getD i (0, 0)).2) ∧ l.box.1 ≤ sumI xs ∧ sumI xs ≤ l.box.2 := by
  unfold canPay
  simp only [Bool.and_eq_true, List.all_eq_true, decide_eq_true_eq]
  have hle : (∀ r ∈ alone l out dues, r.1 ≤ r.2) → lowL l out dues ≤ highL l out dues := fun h => by
    unfold lowL highL
    generalize alone l out dues = rs at h
    induction rs with
    | nil => exact Int.le_refl _
    | cons x rs ih =>
      have h1 := h x List.mem_cons_self
      have h2 := ih (fun y hy => h y (List.mem_cons_of_mem _ hy))
      simp only [List.map_cons, sumI_cons]
      omega
  constructor
  · rintro ⟨⟨h1, h2⟩, h3⟩
    obtain ⟨s, k1, k2, k3, k4⟩ := (together (hle h1) hb).2 ⟨h2, h3⟩
    obtain ⟨xs, x1, x2, x3⟩ := (sum_ranges _ h1 s).1 ⟨k1, k2⟩
    exact ⟨xs, x1, x2, by omega, by omega⟩
  · rintro ⟨xs, x1, x2, x3, x4⟩
    have hr : ∀ r ∈ alone l out dues, r.1 ≤ r.2 := fun r hr => by
      obtain ⟨i, hi, rfl⟩ := List.getElem_of_mem hr
      have := x2 i hi
      rw [show (alone l out dues).getD i (0, 0) = (alone l out dues)[i] from by simp [List.getD, hi]] at this
      omega
    obtain ⟨k1, k2⟩ := (sum_ranges _ hr (sumI xs)).2 ⟨xs, x1, x2, rfl⟩
    obtain ⟨m1, m2⟩ := (together (hle hr) hb).1 ⟨sumI xs, k1, k2, x3, x4⟩
    exact ⟨⟨hr, m1⟩, m2⟩

end Go.Proofs.Ytechgmnkcijahaa

namespace Go.Proofs.Ytechgmnkcijahaa
open Cou

/-- The dues of all weeders that there can be. -/
def duesV (rate : Int) (rows : List Int) : List Int := (List.range 3).map fun (i : Nat) => rate * (rows.count (i : Int) : Int)
theorem duesV_len (rate : Int) (rows : List Int) : (duesV rate rows).length = 3 := by simp [duesV]
theorem duesV_get (rate : Int) (rows : List Int) {i : Nat} (hi : i < 3) : (duesV rate rows).getD i 0 = rate * (rows.count (i : Int) : Int) := by
  unfold duesV
  rw [List.getD_eq_getElem?_getD, List.getElem?_map, List.getElem?_range hi]
  rfl
theorem ext3 {a b : List Int} (ha : a.length = 3) (hb : b.length = 3) (h : ∀ i, i < 3 → a.getD i 0 = b.getD i 0) : a = b := by
  refine List.ext_getElem (by omega) fun i h1 h2 => ?_
  have := h i (by omega)
  simpa [List.getD, h1, h2] using this
theorem duesV_nil (rate : Int) : duesV rate [] = [0, 0, 0] := by simp [duesV, List.range_succ]
theorem duesV_some (rate : Int) (rs : List Int) (n : Nat) (hn : n < 3) : (duesV rate rs).set n ((duesV rate rs).getD n 0 + rate) = duesV rate (rs ++ [(n : Int)]) := by
  refine ext3 (by simp [duesV_len]) (duesV_len _ _) fun i hi => ?_
  rw [duesV_get _ _ hi, List.count_append]
  by_cases e : n = i
  · subst e
    rw [List.getD_eq_getElem?_getD, List.getElem?_set_self (by rw [duesV_len]; omega), Option.getD_some, duesV_get _ _ hn]
    simp [Int.mul_add]
  · rw [List.getD_eq_getElem?_getD, List.getElem?_set_ne e, ← List.getD_eq_getElem?_getD, duesV_get _ _ hi]
    have : List.count (i : Int) [(n : Int)] = 0 := by
      rw [List.count_eq_zero]
      simp; omega
    rw [this, Nat.add_zero]
theorem duesV_none (rate : Int) (rs : List Int) (x : Int) (hx : x < 0) : duesV rate (rs ++ [x]) = duesV rate rs := by
  refine ext3 (duesV_len _ _) (duesV_len _ _) fun i hi => ?_
  rw [duesV_get _ _ hi, duesV_get _ _ hi, List.count_append]
  have : List.count (i : Int) [x] = 0 := by
    rw [List.count_eq_zero]
    simp; omega
  rw [this, Nat.add_zero]
theorem duesV_bd {rate : Int} (h0 : 0 ≤ rate) (h1 : rate ≤ 50) (rs : List Int) (hl : rs.length ≤ 7) (i : Nat) (hi : i < 3) : 0 ≤ (duesV rate rs).getD i 0 ∧ (duesV rate rs).getD i 0 ≤ 350 := by
  rw [duesV_get _ _ hi]
  have hc : (List.count (i : Int) rs : Int) ≤ 7 := by
    have := List.count_le_length (a := (i : Int)) (l := rs)
    omega
  have hc0 : (0 : Int) ≤ (List.count (i : Int) rs : Int) := by omega
  refine ⟨Int.mul_nonneg h0 hc0, ?_⟩
  calc rate * (List.count (i : Int) rs : Int) ≤ 50 * 7 := Int.mul_le_mul h1 hc hc0 (by omega)
    _ = 350 := rfl

theorem didL_count (l : List Int) (who : Int) : didL l who 0 l.length = (l.count who : Int) := by
  unfold didL
  congr 1
  have : ∀ l : List Int, (List.range' 0 l.length).countP (fun i => l.getD i 0 == who) = l.count who := by
    intro l
    rw [List.count, ← List.range_eq_range']
    have h : l = (List.range l.length).map fun i => l.getD i 0 := by
      refine List.ext_getElem (by simp) fun i h1 h2 => ?_
      simp [List.getD, h1]
    conv => rhs; rw [h]
    rw [List.countP_map]
    rfl
  exact this l

/-- The due of a weeder is the rate times the rows done. -/
theorem dues_done {f : FieldD} (_hS : SoundF f) (rate : Int) {a : List Int} (ha : a.length = f.rows.toNat) {i : Nat} (hi : i < 3) : (duesV rate a).getD i 0 = rate * doneF f a (i : Int) := by
  rw [duesV_get _ _ hi]
  unfold doneF didT
  rw [show (f.rows - 1 + 1 - 0).toNat = a.length from by omega]
  show rate * _ = rate * didL a i 0 a.length
  rw [didL_count]

end Go.Proofs.Ytechgmnkcijahaa

namespace Go.Proofs.Ytechgmnkcijahaa
open Cou

/-- The first notes, without those that are left out. -/
def leftTo (l : LedgerD) (out : List Int) (k : Nat) : List (Int × Rng) := ((List.range k).filter fun (i : Nat) => !out.contains (i : Int)).map fun i => l.notes.getD i (0, (0, 0))
def leftL (l : LedgerD) (out : List Int) : List (Int × Rng) := leftTo l out l.notes.length
theorem leftTo_yes {l : LedgerD} {out : List Int} {k : Nat} (h : out.contains (k : Int) = false) : leftTo l out (k + 1) = leftTo l out k ++ [l.notes.getD k (0, (0, 0))] := by
  unfold leftTo
  rw [List.range_succ, List.filter_append, List.map_append]
  congr 1
  rw [List.filter_cons_of_pos (by rw [h]; rfl)]
  rfl
theorem leftTo_no {l : LedgerD} {out : List Int} {k : Nat} (h : out.contains (k : Int) = true) : leftTo l out (k + 1) = leftTo l out k := by
  unfold leftTo
  rw [List.range_succ, List.filter_append, List.map_append, List.filter_cons_of_neg (by rw [h]; simp)]
  simp
theorem leftTo_len (l : LedgerD) (out : List Int) (k : Nat) : (leftTo l out k).length ≤ k := by
  unfold leftTo
  rw [List.length_map]
  have := List.length_filter_le (fun (i : Nat) => !out.contains (i : Int)) (List.range k)
  simpa using this

/-- What a weeder with a due can have been paid, by some notes. -/
def knTo (ns : List (Int × Rng)) (key : Int × Int) (k : Nat) : Rng := (ns.take k).foldl (fun r n => if n.1 = key.1 then bothR r n.2 else r) (0, key.2)
def kn (ns : List (Int × Rng)) (key : Int × Int) : Rng := knTo ns key ns.length
theorem knTo_succ {ns : List (Int × Rng)} {key : Int × Int} {k : Nat} (hk : k < ns.length) : knTo ns key (k + 1) = if ns[k].1 = key.1 then bothR (knTo ns key k) ns[k].2 else knTo ns key k := by
  unfold knTo
  rw [List.take_succ_eq_append_getElem hk, List.foldl_append]
  rfl

theorem kn_known (l : LedgerD) (out : List Int) (i : Nat) (due : Int) : kn (leftL l out) ((i : Int), due) = knownL l out i due := by
  unfold kn knTo knownL leftL leftTo
  rw [List.take_length, List.foldl_map]
  generalize List.range l.notes.length = ks
  have : ∀ (ks : List Nat) (r : Rng), (ks.filter fun (k : Nat) => !out.contains (k : Int)).foldl (fun r k => if (l.notes.getD k (0, (0, 0))).1 = (i : Int) then bothR r (l.notes.getD k (0, (0, 0))).2 else r) r =
      (ks.filter fun (k : Nat) => !out.contains (k : Int) && (l.notes.getD k (0, (0, 0))).1 == (i : Int)).foldl (fun r k => bothR r (l.notes.getD k (0, (0, 0))).2) r := by
    intro ks
    induction ks with
    | nil => intro r; rfl
    | cons k ks ih =>
      intro r
      cases hc : out.contains (k : Int)
      · by_cases hn : (l.notes.getD k (0, (0, 0))).1 = (i : Int)
        · simp only [List.filter_cons, hc, hn, Bool.not_false, if_true, beq_self_eq_true, Bool.and_self, List.foldl_cons]
          exact ih _
        · have hnb : ((l.notes.getD k (0, (0, 0))).1 == (i : Int)) = false := by simpa using hn
          simp only [List.filter_cons, hc, hnb, hn, Bool.not_false, if_true, if_false, Bool.and_false, Bool.false_eq_true, List.foldl_cons]
          exact ih _
      · simp only [List.filter_cons, hc, Bool.not_true, Bool.false_and, Bool.false_eq_true, if_false]
        exact ih _
  exact this ks (0, due)

theorem sumI_snoc (xs : List Int) (x : Int) : sumI (xs ++ [x]) = sumI xs + x := by
  induction xs with
  | nil => simp [sumI]
  | cons y xs ih => rw [List.cons_append, sumI_cons, sumI_cons, ih]; omega
def sumTo (f : Rng → Int) (rs : List Rng) (k : Nat) : Int := sumI ((rs.take k).map f)
theorem sumTo_succ (f : Rng → Int) {rs : List Rng} {k : Nat} (hk : k < rs.length) : sumTo f rs (k + 1) = sumTo f rs k + f rs[k] := by
  unfold sumTo
  rw [List.take_succ_eq_append_getElem hk, List.map_append, List.map_singleton, sumI_snoc]
theorem sumTo_bd (f : Rng → Int) (rs : List Rng) (h : ∀ r ∈ rs, 0 ≤ f r ∧ f r ≤ 2000) : ∀ k, k ≤ rs.length → 0 ≤ sumTo f rs k ∧ sumTo f rs k ≤ 2000 * k := by
  intro k
  induction k with
  | zero => intro _; simp [sumTo, sumI]
  | succ k ih =>
    intro hk
    have := ih (by omega)
    have := h rs[k] (List.getElem_mem _)
    rw [sumTo_succ f (by omega)]
    omega
theorem sumTo_all (f : Rng → Int) (rs : List Rng) : sumTo f rs rs.length = sumI (rs.map f) := by unfold sumTo; rw [List.take_length]

/-- What can have been paid is an amount, or less than nothing. -/
theorem knTo_bd {ns : List (Int × Rng)} (hn : ∀ x ∈ ns, 0 ≤ x.2.1 ∧ x.2.1 ≤ 2000 ∧ 0 ≤ x.2.2 ∧ x.2.2 ≤ 2000) {key : Int × Int} (h0 : 0 ≤ key.2) (_h1 : key.2 ≤ 2000) : ∀ k, k ≤ ns.length → 0 ≤ (knTo ns key k).1 ∧ (knTo ns key k).1 ≤ 2000 ∧ 0 ≤ (knTo ns key k).2 ∧ (knTo ns key k).2 ≤ key.2 := by
  intro k
  induction k with
  | zero => intro _; simp [knTo]; omega
  | succ k ih =>
    intro hk
    have h := ih (by omega)
    have hx := hn ns[k] (List.getElem_mem _)
    rw [knTo_succ (by omega)]
    split
    · unfold bothR
      simp only
      omega
    · exact h
theorem leftL_mem {l : LedgerD} {out : List Int} {x : Int × Rng} (h : x ∈ leftL l out) : x ∈ l.notes := by
  unfold leftL leftTo at h
  obtain ⟨i, hi, rfl⟩ := List.mem_map.1 h
  have := List.mem_range.1 (List.mem_filter.1 hi).1
  rw [show l.notes.getD i (0, (0, 0)) = l.notes[i] from by simp [List.getD, this]]
  exact List.getElem_mem _

/-- Amounts everywhere: what the checks of a ledger have shown. -/
structure SoundL (l : LedgerD) : Prop where
  field : faultF l.field = 0
  some : truthsF l.field [] ≠ []
  rate : 1 ≤ l.rate ∧ l.rate ≤ 50
  box : 0 ≤ l.box.1 ∧ l.box.1 ≤ l.box.2 ∧ l.box.2 ≤ 2000
  many : l.notes.length ≤ 5
  notes : ∀ x ∈ l.notes, (0 ≤ x.1 ∧ x.1 < l.field.weeders) ∧ (0 ≤ x.2.1 ∧ x.2.1 ≤ x.2.2 ∧ x.2.2 ≤ 2000)

theorem known_bd {l : LedgerD} (hS : SoundL l) (out : List Int) (i : Nat) {due : Int} (h0 : 0 ≤ due) (h1 : due ≤ 2000) : 0 ≤ (knownL l out i due).1 ∧ (knownL l out i due).1 ≤ 2000 ∧ 0 ≤ (knownL l out i due).2 ∧ (knownL l out i due).2 ≤ due := by
  rw [← kn_known]
  exact knTo_bd (fun x hx => by have := hS.notes x (leftL_mem hx); omega) h0 h1 _ (Nat.le_refl _)

theorem alone_len (l : LedgerD) (out d : List Int) : (alone l out d).length = l.field.weeders.toNat := by simp [alone]
theorem alone_get (l : LedgerD) (out d : List Int) {i : Nat} (hi : i < l.field.weeders.toNat) : (alone l out d).getD i (0, 0) = knownL l out i (d.getD i 0) := by
  unfold alone
  rw [List.getD_eq_getElem?_getD, List.getElem?_map, List.getElem?_range hi]
  rfl

end Go.Proofs.Ytechgmnkcijahaa

namespace Go.Proofs.Ytechgmnkcijahaa
open Cou

def widR (r x : Rng) : Rng := (min r.1 x.1, max r.2 x.2)
def partE (due : Int) (_ : Rng) : Rng := (due, due)
def partP (_ : Int) (r : Rng) : Rng := r
def partO (due : Int) (r : Rng) : Rng := (due - r.2, due - r.1)

/-- What is so of all weeders, with some dues. -/
def nowsL (p : Int → Rng → Rng) (l : LedgerD) (d : List Int) : List Rng := (List.range l.field.weeders.toNat).map fun i => p (d.getD i 0) ((paidL l [] d).getD i (0, 0))
/-- .. with one more dues, with those of the first weeders in them. -/
def addTo (acc nows : List Rng) (i : Nat) : List Rng := if acc = [] then nows.take i else (List.zipWith widR acc nows).take i ++ acc.drop i
def addB (acc nows : List Rng) : List Rng := if acc = [] then nows else List.zipWith widR acc nows
def bndStep (p : Int → Rng → Rng) (l : LedgerD) (acc : List Rng) (d : List Int) : List Rng := if canPay l [] d = true then addB acc (nowsL p l d) else acc
def bndTo (p : Int → Rng → Rng) (l : LedgerD) (k : Nat) (ds : List (List Int)) : List Rng := (ds.take k).foldl (bndStep p l) []
def bndL (p : Int → Rng → Rng) (l : LedgerD) (ds : List (List Int)) : List Rng := bndTo p l ds.length ds

theorem paidL_len (l : LedgerD) (out d : List Int) : (paidL l out d).length = l.field.weeders.toNat := by simp [paidL, alone_len]
theorem nowsL_len (p : Int → Rng → Rng) (l : LedgerD) (d : List Int) : (nowsL p l d).length = l.field.weeders.toNat := by simp [nowsL]
theorem nowsL_get (p : Int → Rng → Rng) (l : LedgerD) (d : List Int) {i : Nat} (hi : i < (nowsL p l d).length) : (nowsL p l d)[i] = p (d.getD i 0) ((paidL l [] d).getD i (0, 0)) := by
  simp [nowsL]
theorem bndTo_succ (p : Int → Rng → Rng) (l : LedgerD) {k : Nat} {ds : List (List Int)} (hk : k < ds.length) : bndTo p l (k + 1) ds = bndStep p l (bndTo p l k ds) ds[k] := by
  unfold bndTo
  rw [List.take_succ_eq_append_getElem hk, List.foldl_append]
  rfl
theorem addB_len {acc nows : List Rng} (h : acc = [] ∨ acc.length = nows.length) : (addB acc nows).length = nows.length := by
  unfold addB
  split
  · rfl
  · rcases h with h | h
    · contradiction
    · simp [h]
theorem bndTo_len (p : Int → Rng → Rng) (l : LedgerD) (ds : List (List Int)) : ∀ k, k ≤ ds.length → bndTo p l k ds = [] ∨ (bndTo p l k ds).length = l.field.weeders.toNat := by
  intro k
  induction k with
  | zero => intro _; exact .inl rfl
  | succ k ih =>
    intro hk
    rw [bndTo_succ p l (by omega)]
    have h := ih (by omega)
    unfold bndStep
    split
    · right
      rw [addB_len (by rw [nowsL_len]; exact h), nowsL_len]
    · exact h

theorem addTo_zero (acc nows : List Rng) : addTo acc nows 0 = acc := by
  unfold addTo
  split
  · rename_i h; rw [h]; rfl
  · simp
theorem addTo_all {acc nows : List Rng} (h : acc = [] ∨ acc.length = nows.length) : addTo acc nows nows.length = addB acc nows := by
  unfold addTo addB
  split
  · simp
  · rcases h with h | h
    · contradiction
    · rw [List.take_of_length_le (by simp; omega), List.drop_of_length_le (by omega), List.append_nil]
theorem addTo_len {acc nows : List Rng} {i : Nat} (h : acc = [] ∨ acc.length = nows.length) (hi : i ≤ nows.length) : (addTo acc nows i).length = if acc = [] then i else nows.length := by
  unfold addTo
  by_cases e : acc = []
  · rw [if_pos e, if_pos e]; simp; omega
  · rw [if_neg e, if_neg e]
    rcases h with h | h
    · contradiction
    · simp; omega
theorem addTo_new {nows : List Rng} {i : Nat} (hi : i < nows.length) : addTo [] nows (i + 1) = addTo [] nows i ++ [nows[i]] := by
  unfold addTo
  rw [if_pos rfl, if_pos rfl, List.take_succ_eq_append_getElem hi]
theorem addTo_old {acc nows : List Rng} {i : Nat} (ha : acc ≠ []) (h : acc.length = nows.length) (hi : i < nows.length) :
    (addTo acc nows i)[i]? = acc[i]? ∧ addTo acc nows (i + 1) = (addTo acc nows i).set i (widR (acc.getD i (0, 0)) nows[i]) := by
  unfold addTo
  rw [if_neg ha, if_neg ha]
  have hz : ((List.zipWith widR acc nows).take i).length = i := by simp; omega
  refine ⟨?_, ?_⟩
  · rw [List.getElem?_append_right (by omega), hz, List.getElem?_drop, Nat.sub_self, Nat.add_zero]
  · rw [List.set_append_right _ _ (by omega), hz, Nat.sub_self, List.drop_eq_getElem_cons (by omega : i < acc.length), List.set_cons_zero,
      List.take_succ_eq_append_getElem (by simp; omega), List.append_assoc, List.singleton_append]
    simp [List.getD, h, hi]
theorem addTo_old_new {nows : List Rng} {i : Nat} (hi : i < nows.length) : (addTo [] nows i ++ [nows[i]]).set i (widR nows[i] nows[i]) = addTo [] nows i ++ [nows[i]] := by
  have hw : ∀ r : Rng, widR r r = r := fun r => by unfold widR; simp
  have hl : (addTo [] nows i).length = i := by unfold addTo; rw [if_pos rfl]; simp; omega
  rw [hw, List.set_append_right _ _ (by omega), hl, Nat.sub_self, List.set_cons_zero]

/-! ### Hulls -/
/-- The least range that has all ranges of a list. -/
structure HullOf (S : Rng → Prop) (r : Rng) : Prop where
  low : (∃ x, S x ∧ x.1 = r.1) ∧ ∀ x, S x → r.1 ≤ x.1
  high : (∃ x, S x ∧ x.2 = r.2) ∧ ∀ x, S x → x.2 ≤ r.2
theorem HullOf.unique {S : Rng → Prop} {r x : Rng} (h : HullOf S r) (k : HullOf S x) : r = x := by
  obtain ⟨⟨⟨a, ha, ha'⟩, h1⟩, ⟨b, hb, hb'⟩, h2⟩ := h
  obtain ⟨⟨⟨c, hc, hc'⟩, k1⟩, ⟨d, hd, hd'⟩, k2⟩ := k
  have := h1 c hc
  have := k1 a ha
  have := h2 d hd
  have := k2 b hb
  exact Prod.ext (by omega) (by omega)
theorem HullOf.one (x : Rng) : HullOf (fun y => y = x) x := ⟨⟨⟨x, rfl, rfl⟩, fun y h => by rw [h]; exact Int.le_refl _⟩, ⟨x, rfl, rfl⟩, fun y h => by rw [h]; exact Int.le_refl _⟩
theorem HullOf.add {S : Rng → Prop} {r : Rng} (h : HullOf S r) (x : Rng) : HullOf (fun y => S y ∨ y = x) (widR r x) := by
  obtain ⟨⟨⟨a, ha, ha'⟩, h1⟩, ⟨b, hb, hb'⟩, h2⟩ := h
  unfold widR
  refine ⟨⟨?_, ?_⟩, ?_, ?_⟩
  · by_cases e : r.1 ≤ x.1
    · exact ⟨a, .inl ha, by simp only; omega⟩
    · exact ⟨x, .inr rfl, by simp only; omega⟩
  · rintro y (hy | rfl)
    · have := h1 y hy; simp only; omega
    · simp only; omega
  · by_cases e : x.2 ≤ r.2
    · exact ⟨b, .inl hb, by simp only; omega⟩
    · exact ⟨x, .inr rfl, by simp only; omega⟩
  · rintro y (hy | rfl)
    · have := h2 y hy; simp only; omega
    · simp only; omega
theorem HullOf.congr {S T : Rng → Prop} {r : Rng} (h : HullOf S r) (e : ∀ x, S x ↔ T x) : HullOf T r := by
  obtain ⟨⟨⟨a, ha, ha'⟩, h1⟩, ⟨b, hb, hb'⟩, h2⟩ := h
  exact ⟨⟨⟨a, (e a).1 ha, ha'⟩, fun x hx => h1 x ((e x).2 hx)⟩, ⟨b, (e b).1 hb, hb'⟩, fun x hx => h2 x ((e x).2 hx)⟩

/-- The bounds of a part of a weeder: the hull over all dues that can be paid. -/
theorem bndTo_hull (p : Int → Rng → Rng) (l : LedgerD) (ds : List (List Int)) {i : Nat} (hi : i < l.field.weeders.toNat) : ∀ k, k ≤ ds.length →
    (bndTo p l k ds = [] ∧ ∀ d ∈ ds.take k, canPay l [] d = false) ∨ ((bndTo p l k ds).length = l.field.weeders.toNat ∧ HullOf (fun y => ∃ d ∈ ds.take k, canPay l [] d = true ∧ y = p (d.getD i 0) ((paidL l [] d).getD i (0, 0))) ((bndTo p l k ds).getD i (0, 0))) := by
  intro k
  induction k with
  | zero => intro _; exact .inl ⟨rfl, fun d hd => by simp at hd⟩
  | succ k ih =>
    intro hk
    have hkl : k < ds.length := by omega
    rw [bndTo_succ p l hkl, List.take_succ_eq_append_getElem hkl]
    have hn : ∀ d, (nowsL p l d).getD i (0, 0) = p (d.getD i 0) ((paidL l [] d).getD i (0, 0)) := fun d => by
      have hi' : i < (nowsL p l d).length := by rw [nowsL_len]; exact hi
      rw [List.getD_eq_getElem?_getD, List.getElem?_eq_getElem hi', Option.getD_some, nowsL_get p l d hi']
    cases hc : canPay l [] ds[k] with
    | false =>
      have hs : bndStep p l (bndTo p l k ds) ds[k] = bndTo p l k ds := by unfold bndStep; rw [hc]; rfl
      rw [hs]
      rcases ih (by omega) with ⟨h1, h2⟩ | ⟨h1, h2⟩
      · refine .inl ⟨h1, fun d hd => ?_⟩
        rcases List.mem_append.1 hd with h | h
        · exact h2 d h
        · rw [List.mem_singleton.1 h]; exact hc
      · refine .inr ⟨h1, h2.congr fun x => ⟨fun ⟨d, hd, a, b⟩ => ⟨d, List.mem_append_left _ hd, a, b⟩, fun ⟨d, hd, a, b⟩ => ?_⟩⟩
        rcases List.mem_append.1 hd with h | h
        · exact ⟨d, h, a, b⟩
        · rw [List.mem_singleton.1 h, hc] at a; cases a
    | true =>
      have hs : bndStep p l (bndTo p l k ds) ds[k] = addB (bndTo p l k ds) (nowsL p l ds[k]) := by unfold bndStep; rw [hc]; rfl
      rw [hs]
      right
      rcases ih (by omega) with ⟨h1, h2⟩ | ⟨h1, h2⟩
      · rw [h1]
        have ha : addB [] (nowsL p l ds[k]) = nowsL p l ds[k] := by unfold addB; rw [if_pos rfl]
        rw [ha]
        refine ⟨nowsL_len _ _ _, ?_⟩
        rw [hn]
        refine (HullOf.one _).congr fun x => ⟨fun e => ⟨ds[k], List.mem_append_right _ (List.mem_singleton.2 rfl), hc, e⟩, fun ⟨d, hd, a, b⟩ => ?_⟩
        rcases List.mem_append.1 hd with h | h
        · rw [h2 d h] at a; cases a
        · rw [List.mem_singleton.1 h] at b; exact b
      · have hne : bndTo p l k ds ≠ [] := fun e => by rw [e] at h1; simp at h1; omega
        have ha : addB (bndTo p l k ds) (nowsL p l ds[k]) = List.zipWith widR (bndTo p l k ds) (nowsL p l ds[k]) := by unfold addB; rw [if_neg hne]
        rw [ha]
        refine ⟨by simp [h1, nowsL_len], ?_⟩
        have hg : (List.zipWith widR (bndTo p l k ds) (nowsL p l ds[k])).getD i (0, 0) = widR ((bndTo p l k ds).getD i (0, 0)) (p (ds[k].getD i 0) ((paidL l [] ds[k]).getD i (0, 0))) := by
          rw [← hn ds[k]]
          have h3 : i < (bndTo p l k ds).length := by omega
          have h4 : i < (nowsL p l ds[k]).length := by rw [nowsL_len]; exact hi
          simp only [List.getD_eq_getElem?_getD, List.getElem?_zipWith, List.getElem?_eq_getElem h3, List.getElem?_eq_getElem h4, Option.getD_some]
        rw [hg]
        refine (h2.add _).congr fun x => ⟨?_, ?_⟩
        · rintro (⟨d, hd, a, b⟩ | e)
          · exact ⟨d, List.mem_append_left _ hd, a, b⟩
          · exact ⟨ds[k], List.mem_append_right _ (List.mem_singleton.2 rfl), hc, e⟩
        · rintro ⟨d, hd, a, b⟩
          rcases List.mem_append.1 hd with h | h
          · exact .inl ⟨d, h, a, b⟩
          · rw [List.mem_singleton.1 h] at b; exact .inr b

/-! ### Penny by penny -/
/-- Whether some weeders can have been paid an amount together: ranges one after the other. -/
def canS (rs : List Rng) (s : Int) : Bool := rs.all (fun r => decide (r.1 ≤ r.2)) && inB s (sumI (rs.map (·.1))) (sumI (rs.map (·.2)))
theorem sumI_le {rs : List Rng} (h : ∀ r ∈ rs, r.1 ≤ r.2) : sumI (rs.map (·.1)) ≤ sumI (rs.map (·.2)) := by
  induction rs with
  | nil => exact Int.le_refl _
  | cons x rs ih =>
    have h1 := h x List.mem_cons_self
    have h2 := ih (fun y hy => h y (List.mem_cons_of_mem _ hy))
    simp only [List.map_cons, sumI_cons]
    omega
theorem canS_nil (s : Int) : canS [] s = decide (s = 0) := by
  unfold canS inB
  rw [Bool.eq_iff_iff]
  simp [sumI]
  omega
/-- One more weeder: an amount is one of the others', and one of this weeder's. -/
theorem canS_snoc (rs : List Rng) (r : Rng) (s : Int) : canS (rs ++ [r]) s = true ↔ ∃ p, r.1 ≤ p ∧ p ≤ r.2 ∧ canS rs (s - p) = true := by
  unfold canS inB
  simp only [List.all_append, List.all_cons, List.all_nil, Bool.and_true, List.map_append, List.map_cons, List.map_nil, sumI_snoc, Bool.and_eq_true, List.all_eq_true, decide_eq_true_eq]
  constructor
  · rintro ⟨⟨h1, h2⟩, h3, h4⟩
    have := sumI_le h1
    exact ⟨max r.1 (s - sumI (rs.map (·.2))), by omega, by omega, h1, by omega, by omega⟩
  · rintro ⟨p, h1, h2, h3, h4, h5⟩
    exact ⟨⟨h3, by omega⟩, by omega, by omega⟩

/-- What each weeder can have been paid; one of them nothing. -/
def othR (l : LedgerD) (out dues : List Int) (but : Int) : List Rng := (List.range l.field.weeders.toNat).map fun (i : Nat) => if (i : Int) = but then (0, 0) else knownL l out i (dues.getD i 0)
theorem othR_all (l : LedgerD) (out dues : List Int) {but : Int} (h : but < 0) : othR l out dues but = alone l out dues := by
  unfold othR alone
  refine List.map_congr_left fun i _ => ?_
  rw [if_neg (by omega)]
theorem sumI_set {l : List Int} {i : Nat} (hi : i < l.length) (x : Int) : sumI (l.set i x) = sumI l - l.getD i 0 + x := by
  induction l generalizing i with
  | nil => simp at hi
  | cons y l ih =>
    cases i with
    | zero => simp only [List.set_cons_zero, sumI_cons, List.getD_cons_zero]; omega
    | succ i =>
      have := ih (i := i) (by simpa using hi)
      simp only [List.set_cons_succ, sumI_cons, List.getD_cons_succ]
      omega
theorem othR_set (l : LedgerD) (out dues : List Int) {i : Nat} (_ : i < l.field.weeders.toNat) : othR l out dues (i : Int) = (alone l out dues).set i (0, 0) := by
  refine List.ext_getElem (by simp [othR, alone]) fun j h1 h2 => ?_
  rw [List.getElem_set]
  simp only [othR, alone, List.getElem_map, List.getElem_range]
  by_cases e : i = j
  · rw [if_pos e, if_pos (by omega)]
  · rw [if_neg e, if_neg (by omega)]

/-- Whether some amounts have one that makes, with another one, a number of the box. -/
def hasB (box : Rng) (rs : List Rng) (more : Int) : Bool := rs.all (fun r => decide (r.1 ≤ r.2)) && (decide (sumI (rs.map (·.1)) + more ≤ box.2) && decide (box.1 ≤ sumI (rs.map (·.2)) + more))
theorem hasB_iff {box : Rng} (hb : box.1 ≤ box.2) (rs : List Rng) (more : Int) : hasB box rs more = true ↔ ∃ s, canS rs s = true ∧ inB (s + more) box.1 box.2 = true := by
  unfold hasB canS inB
  simp only [Bool.and_eq_true, List.all_eq_true, decide_eq_true_eq]
  constructor
  · rintro ⟨h1, h2, h3⟩
    have := sumI_le h1
    exact ⟨max (sumI (rs.map (·.1))) (box.1 - more), ⟨h1, by omega, by omega⟩, by omega, by omega⟩
  · rintro ⟨s, ⟨h1, h2, h3⟩, h4, h5⟩
    exact ⟨h1, by omega, by omega⟩
theorem hasB_can (l : LedgerD) (out dues : List Int) : hasB l.box (othR l out dues (-1)) 0 = canPay l out dues := by
  rw [othR_all _ _ _ (by omega)]
  unfold hasB canPay lowL highL
  rw [Bool.and_assoc, Int.add_zero, Int.add_zero]

theorem paidL_get (l : LedgerD) (out d : List Int) {i : Nat} (hi : i < l.field.weeders.toNat) :
    (paidL l out d).getD i (0, 0) = bothR (knownL l out i (d.getD i 0)) (l.box.1 - (highL l out d - (knownL l out i (d.getD i 0)).2), l.box.2 - (lowL l out d - (knownL l out i (d.getD i 0)).1)) := by
  have ha := alone_get l out d hi
  have hl : i < (alone l out d).length := by rw [alone_len]; exact hi
  rw [List.getD_eq_getElem?_getD, List.getElem?_eq_getElem hl, Option.getD_some] at ha
  unfold paidL
  rw [List.getD_eq_getElem?_getD, List.getElem?_map, List.getElem?_eq_getElem hl, ha]
  rfl

/-- What a weeder can have been paid, with the others and the box: the reference's pence are those of the range. -/
theorem payable_iff {l : LedgerD} {out d : List Int} {i : Nat} (hi : i < l.field.weeders.toNat) (hc : canPay l out d = true) (p : Int) :
    (inB p (knownL l out i (d.getD i 0)).1 (knownL l out i (d.getD i 0)).2 && hasB l.box (othR l out d (i : Int)) p) = inB p ((paidL l out d).getD i (0, 0)).1 ((paidL l out d).getD i (0, 0)).2 := by
  rw [paidL_get l out d hi, bothR_in]
  congr 1
  rw [othR_set l out d hi]
  have hl : i < (alone l out d).length := by rw [alone_len]; exact hi
  have ha := alone_get l out d hi
  unfold canPay at hc
  simp only [Bool.and_eq_true, List.all_eq_true, decide_eq_true_eq] at hc
  have h1 : sumI (((alone l out d).set i (0, 0)).map (·.1)) = lowL l out d - (knownL l out i (d.getD i 0)).1 := by
    rw [List.map_set, sumI_set (by simpa using hl)]
    unfold lowL
    rw [← ha, List.getD_eq_getElem?_getD, List.getD_eq_getElem?_getD, List.getElem?_map, List.getElem?_eq_getElem hl]
    simp
  have h2 : sumI (((alone l out d).set i (0, 0)).map (·.2)) = highL l out d - (knownL l out i (d.getD i 0)).2 := by
    rw [List.map_set, sumI_set (by simpa using hl)]
    unfold highL
    rw [← ha, List.getD_eq_getElem?_getD, List.getD_eq_getElem?_getD, List.getElem?_map, List.getElem?_eq_getElem hl]
    simp
  have h3 : (((alone l out d).set i (0, 0)).all fun r => decide (r.1 ≤ r.2)) = true := by
    rw [List.all_eq_true]
    intro r hr
    rcases List.mem_or_eq_of_mem_set hr with h | h
    · simpa using hc.1.1 r h
    · rw [h]; rfl
  unfold hasB
  rw [h1, h2, h3, Bool.true_and]
  unfold inB
  rw [Bool.eq_iff_iff]
  simp only [Bool.and_eq_true, decide_eq_true_eq]
  omega

/-- If the others leave some pence, there is a truth. -/
theorem canPay_of_payable {l : LedgerD} {out d : List Int} {i : Nat} (hi : i < l.field.weeders.toNat) {p : Int} (h1 : inB p (knownL l out i (d.getD i 0)).1 (knownL l out i (d.getD i 0)).2 = true) (h2 : hasB l.box (othR l out d (i : Int)) p = true) : canPay l out d = true := by
  rw [othR_set l out d hi] at h2
  have hl : i < (alone l out d).length := by rw [alone_len]; exact hi
  have ha := alone_get l out d hi
  have e1 : sumI (((alone l out d).set i (0, 0)).map (·.1)) = lowL l out d - (knownL l out i (d.getD i 0)).1 := by
    rw [List.map_set, sumI_set (by simpa using hl)]
    unfold lowL
    rw [← ha, List.getD_eq_getElem?_getD, List.getD_eq_getElem?_getD, List.getElem?_map, List.getElem?_eq_getElem hl]
    simp
  have e2 : sumI (((alone l out d).set i (0, 0)).map (·.2)) = highL l out d - (knownL l out i (d.getD i 0)).2 := by
    rw [List.map_set, sumI_set (by simpa using hl)]
    unfold highL
    rw [← ha, List.getD_eq_getElem?_getD, List.getD_eq_getElem?_getD, List.getElem?_map, List.getElem?_eq_getElem hl]
    simp
  unfold hasB at h2
  rw [e1, e2] at h2
  unfold inB at h1
  simp only [Bool.and_eq_true, decide_eq_true_eq, List.all_eq_true] at h1 h2
  unfold canPay
  simp only [Bool.and_eq_true, List.all_eq_true, decide_eq_true_eq]
  refine ⟨⟨fun r hr => ?_, by omega⟩, by omega⟩
  obtain ⟨j, hj, rfl⟩ := List.getElem_of_mem hr
  by_cases e : j = i
  · subst e
    rw [List.getD_eq_getElem?_getD, List.getElem?_eq_getElem hj, Option.getD_some] at ha
    rw [ha]; omega
  · have hj' : j < ((alone l out d).set i (0, 0)).length := by simpa using hj
    have := h2.1 _ (List.getElem_mem hj')
    rw [List.getElem_set_ne (Ne.symm e)] at this
    exact this

/-- If there is a truth, each weeder can have been paid something. -/
theorem paidL_some {l : LedgerD} {out d : List Int} {i : Nat} (hi : i < l.field.weeders.toNat) (hb : l.box.1 ≤ l.box.2) (hc : canPay l out d = true) : ((paidL l out d).getD i (0, 0)).1 ≤ ((paidL l out d).getD i (0, 0)).2 := by
  rw [paidL_get l out d hi]
  have hl : i < (alone l out d).length := by rw [alone_len]; exact hi
  have ha := alone_get l out d hi
  unfold canPay at hc
  simp only [Bool.and_eq_true, List.all_eq_true, decide_eq_true_eq] at hc
  obtain ⟨⟨h1, h2⟩, h3⟩ := hc
  have e1 : sumI (((alone l out d).set i (0, 0)).map (·.1)) = lowL l out d - (knownL l out i (d.getD i 0)).1 := by
    rw [List.map_set, sumI_set (by simpa using hl)]
    unfold lowL
    rw [← ha, List.getD_eq_getElem?_getD, List.getD_eq_getElem?_getD, List.getElem?_map, List.getElem?_eq_getElem hl]
    simp
  have e2 : sumI (((alone l out d).set i (0, 0)).map (·.2)) = highL l out d - (knownL l out i (d.getD i 0)).2 := by
    rw [List.map_set, sumI_set (by simpa using hl)]
    unfold highL
    rw [← ha, List.getD_eq_getElem?_getD, List.getD_eq_getElem?_getD, List.getElem?_map, List.getElem?_eq_getElem hl]
    simp
  have e3 := sumI_le (rs := (alone l out d).set i (0, 0)) (fun r hr => by
    rcases List.mem_or_eq_of_mem_set hr with h | h
    · exact h1 r h
    · rw [h]; exact Int.le_refl _)
  have e4 := h1 _ (by rw [List.getD_eq_getElem?_getD, List.getElem?_eq_getElem hl, Option.getD_some] at ha; rw [← ha]; exact List.getElem_mem hl : knownL l out i (d.getD i 0) ∈ alone l out d)
  rw [e1, e2] at e3
  unfold bothR
  simp only
  omega
end Go.Proofs.Ytechgmnkcijahaa

namespace Go.Proofs.Ytechgmnkcijahaa
open Cou
set_option maxHeartbeats 400000

/-! ### Insertion -/
/-- The element at a place moves to the left while it goes before its neighbour. -/
def insAt (p : Int → Int → Bool) (l : List Int) : Nat → List Int
  | 0 => l
  | j + 1 => if p (l.getD (j + 1) 0) (l.getD j 0) = true then insAt p ((l.set (j + 1) (l.getD j 0)).set j (l.getD (j + 1) 0)) j else l
def insTo (p : Int → Int → Bool) (l : List Int) : Nat → List Int
  | 0 => l
  | i + 1 => insAt p (insTo p l i) i
def insL (p : Int → Int → Bool) (l : List Int) : List Int := insTo p l l.length

theorem insAt_len (p : Int → Int → Bool) : ∀ (j : Nat) (l : List Int), (insAt p l j).length = l.length
  | 0, l => rfl
  | j + 1, l => by
    unfold insAt
    split
    · rw [insAt_len p j]; simp
    · rfl
theorem insTo_len (p : Int → Int → Bool) (l : List Int) : ∀ i, (insTo p l i).length = l.length
  | 0 => rfl
  | i + 1 => by unfold insTo; rw [insAt_len, insTo_len p l i]

/-! ### Shares -/
def quoS (of : Int) (ns : List Int) (i : Nat) : Int := of * ns.getD i 0 / sumI ns
def remS (of : Int) (ns : List Int) (i : Nat) : Int := of * ns.getD i 0 % sumI ns
def quosL (of : Int) (ns : List Int) : List Int := (List.range ns.length).map (quoS of ns)
def remsL (of : Int) (ns : List Int) : List Int := (List.range ns.length).map (remS of ns)
def leftS (of : Int) (ns : List Int) : Int := of - sumI (quosL of ns)
/-- Who gets a penny that is left over, first. -/
def befS (of : Int) (ns : List Int) (x y : Int) : Bool := decide (remS of ns y.toNat < remS of ns x.toNat)
def orderS (of : Int) (ns : List Int) : List Int := insL (befS of ns) (upto ns.length)
def plusTo (out order : List Int) (k : Nat) : List Int := (order.take k).foldl (fun o i => o.set i.toNat (o.getD i.toNat 0 + 1)) out
def shareL (of : Int) (ns : List Int) : List Int := plusTo (quosL of ns) (orderS of ns) (leftS of ns).toNat

/-- Penny by penny. -/
def bestTo (r : List Int) : Nat → Nat
  | 0 => 0
  | k + 1 => if r.getD (bestTo r k) 0 < r.getD (k + 1) 0 then k + 1 else bestTo r k
def bestL (r : List Int) : Nat := bestTo r (r.length - 1)
def payTo (out rest : List Int) : Nat → List Int × List Int
  | 0 => (out, rest)
  | k + 1 => ((payTo out rest k).1.set (bestL (payTo out rest k).2) ((payTo out rest k).1.getD (bestL (payTo out rest k).2) 0 + 1), (payTo out rest k).2.set (bestL (payTo out rest k).2) (-1))
def rshareL (of : Int) (ns : List Int) : List Int := (payTo (quosL of ns) (remsL of ns) (leftS of ns).toNat).1

theorem quosL_len (of : Int) (ns : List Int) : (quosL of ns).length = ns.length := by simp [quosL]
theorem remsL_len (of : Int) (ns : List Int) : (remsL of ns).length = ns.length := by simp [remsL]
theorem plusTo_len (out order : List Int) (k : Nat) : (plusTo out order k).length = out.length := by
  unfold plusTo
  generalize order.take k = o
  induction o generalizing out with
  | nil => rfl
  | cons x o ih => rw [List.foldl_cons, ih]; simp
theorem plusTo_succ {out order : List Int} {k : Nat} (hk : k < order.length) : plusTo out order (k + 1) = (plusTo out order k).set (order[k]).toNat ((plusTo out order k).getD (order[k]).toNat 0 + 1) := by
  unfold plusTo
  rw [List.take_succ_eq_append_getElem hk, List.foldl_append]
  rfl

/-- What is left over is less than a penny each. -/
theorem left_bd {of : Int} {ns : List Int} (hs : 0 < sumI ns) (h1 : ns ≠ []) : 0 ≤ leftS of ns ∧ leftS of ns < ns.length ∧ sumI ns * leftS of ns = sumI (remsL of ns) := by
  have key : ∀ m : Nat, m ≤ ns.length → sumI ns * sumI ((List.range m).map (quoS of ns)) + sumI ((List.range m).map (remS of ns)) = of * sumI (ns.take m) ∧ 0 ≤ sumI ((List.range m).map (remS of ns)) ∧ (m = 0 ∨ sumI ((List.range m).map (remS of ns)) < sumI ns * m) := by
    intro m
    induction m with
    | zero => intro _; simp [sumI]
    | succ m ih =>
      intro hm
      obtain ⟨e1, e2, e3⟩ := ih (by omega)
      have hr := Int.emod_nonneg (of * ns.getD m 0) (show sumI ns ≠ 0 by omega)
      have hr2 := Int.emod_lt_of_pos (of * ns.getD m 0) hs
      have hq := Int.mul_ediv_add_emod (of * ns.getD m 0) (sumI ns)
      have hg : ns.getD m 0 = ns[m] := by simp [List.getD, List.getElem?_eq_getElem (show m < ns.length by omega)]
      rw [List.range_succ, List.map_append, List.map_append, List.map_cons, List.map_cons, List.map_nil, List.map_nil, sumI_snoc, sumI_snoc, List.take_succ_eq_append_getElem (show m < ns.length by omega), sumI_snoc, ← hg]
      change _ ∧ _ ∧ (_ ∨ _ + of * ns.getD m 0 % sumI ns < _)
      refine ⟨?_, ?_, .inr ?_⟩
      · rw [Int.mul_add, Int.mul_add]
        unfold quoS remS at *
        omega
      · unfold remS at *; omega
      · have : sumI ns * ((m + 1 : Nat) : Int) = sumI ns * (m : Int) + sumI ns := by push_cast; rw [Int.mul_add, Int.mul_one]
        rw [this]
        unfold remS at *
        rcases e3 with rfl | e3
        · have : sumI ((List.range 0).map fun i => of * ns.getD i 0 % sumI ns) = 0 := rfl
          simp only [Int.natCast_zero, Int.mul_zero] at *
          omega
        · omega
  obtain ⟨e1, e2, e3⟩ := key ns.length (Nat.le_refl _)
  rw [List.take_length] at e1
  have hl : ns.length ≠ 0 := by simpa using h1
  have e3 := e3.resolve_left hl
  have e4 : sumI ns * leftS of ns = sumI (remsL of ns) := by
    unfold leftS quosL remsL
    rw [Int.mul_sub]
    have : sumI ns * of = of * sumI ns := Int.mul_comm _ _
    omega
  refine ⟨?_, ?_, e4⟩
  · have : 0 ≤ sumI ns * leftS of ns := by rw [e4]; exact e2
    exact Int.nonneg_of_mul_nonneg_right this hs
  · have : sumI ns * leftS of ns < sumI ns * ns.length := by rw [e4]; exact e3
    exact Int.lt_of_mul_lt_mul_left this (by omega)

theorem share_eq {of : Int} {ns : List Int} (hs : 0 < sumI ns) (h3 : ns.length ≤ 3) : shareL of ns = rshareL of ns := by
  have hne : ns ≠ [] := fun e => by rw [e] at hs; simp [sumI] at hs
  obtain ⟨l0, l1, _⟩ := left_bd hs hne
  have hr : ∀ i, 0 ≤ remS of ns i := fun i => Int.emod_nonneg _ (by omega)
  unfold shareL rshareL orderS
  generalize leftS of ns = L at *
  obtain ⟨k, rfl⟩ : ∃ k : Nat, L = k := ⟨L.toNat, by omega⟩
  rw [Int.toNat_natCast]
  have hk : k < ns.length := by omega
  unfold quosL remsL insL befS
  have h0' := hr 0
  have h1' := hr 1
  have h2' := hr 2
  generalize remS of ns = R at *
  generalize quoS of ns = Q at *
  have hu : (upto ns.length).length = ns.length := by simp [upto]
  rw [hu]
  generalize ns.length = n at *
  rcases (by omega : n = 1 ∨ n = 2 ∨ n = 3) with rfl | rfl | rfl
  · have : k = 0 := by omega
    subst this; rfl
  · rcases (by omega : k = 0 ∨ k = 1) with rfl | rfl
    · rfl
    · by_cases c : R 0 < R 1 <;> simp [upto, List.range_succ, insTo, insAt, plusTo, payTo, bestL, bestTo, c]
  · rcases (by omega : k = 0 ∨ k = 1 ∨ k = 2) with rfl | rfl | rfl
    · rfl
    · by_cases c : R 0 < R 1 <;> by_cases d : R 1 < R 2 <;> by_cases e : R 0 < R 2 <;> (try omega) <;> simp [upto, List.range_succ, insTo, insAt, plusTo, payTo, bestL, bestTo, c, d, e]
    · have n0 : ¬ R 0 < -1 := by omega
      have n1 : ¬ R 1 < -1 := by omega
      have n2 : ¬ R 2 < -1 := by omega
      have p0 : -1 < R 0 := by omega
      have p1 : -1 < R 1 := by omega
      have p2 : -1 < R 2 := by omega
      by_cases c : R 0 < R 1 <;> by_cases d : R 1 < R 2 <;> by_cases e : R 0 < R 2 <;> (try omega) <;> simp [upto, List.range_succ, insTo, insAt, plusTo, payTo, bestL, bestTo, c, d, e, n0, n1, p1]
end Go.Proofs.Ytechgmnkcijahaa

namespace Go.Proofs.Ytechgmnkcijahaa
open Cou
set_option maxHeartbeats 400000

/-! ### Bounds of lists of ranges, over those that count -/
def accStep (can : List Int → Bool) (nows : List Int → List Rng) (acc : List Rng) (d : List Int) : List Rng := if can d = true then addB acc (nows d) else acc
def accTo (can : List Int → Bool) (nows : List Int → List Rng) (k : Nat) (ds : List (List Int)) : List Rng := (ds.take k).foldl (accStep can nows) []
theorem accTo_succ (can : List Int → Bool) (nows : List Int → List Rng) {k : Nat} {ds : List (List Int)} (hk : k < ds.length) : accTo can nows (k + 1) ds = accStep can nows (accTo can nows k ds) ds[k] := by
  unfold accTo
  rw [List.take_succ_eq_append_getElem hk, List.foldl_append]
  rfl
theorem accTo_len (can : List Int → Bool) (nows : List Int → List Rng) (ds : List (List Int)) (n : Nat) (hn : ∀ d ∈ ds, can d = true → (nows d).length = n) : ∀ k, k ≤ ds.length → accTo can nows k ds = [] ∨ (accTo can nows k ds).length = n := by
  intro k
  induction k with
  | zero => intro _; exact .inl rfl
  | succ k ih =>
    intro hk
    have hkl : k < ds.length := by omega
    rw [accTo_succ can nows hkl]
    unfold accStep
    split
    · rename_i hc
      right
      have hl := hn _ (List.getElem_mem hkl) hc
      rw [addB_len (by rcases ih (by omega) with h | h; exact .inl h; exact .inr (by omega)), hl]
    · exact ih (by omega)
theorem accTo_hull (can : List Int → Bool) (nows : List Int → List Rng) (ds : List (List Int)) (n : Nat) (hn : ∀ d ∈ ds, can d = true → (nows d).length = n) {i : Nat} (hi : i < n) : ∀ k, k ≤ ds.length →
    (accTo can nows k ds = [] ∧ ∀ d ∈ ds.take k, can d = false) ∨ ((accTo can nows k ds).length = n ∧ HullOf (fun y => ∃ d ∈ ds.take k, can d = true ∧ y = (nows d).getD i (0, 0)) ((accTo can nows k ds).getD i (0, 0))) := by
  intro k
  induction k with
  | zero => intro _; exact .inl ⟨rfl, fun d hd => by simp at hd⟩
  | succ k ih =>
    intro hk
    have hkl : k < ds.length := by omega
    rw [accTo_succ can nows hkl, List.take_succ_eq_append_getElem hkl]
    cases hc : can ds[k] with
    | false =>
      have hs : accStep can nows (accTo can nows k ds) ds[k] = accTo can nows k ds := by unfold accStep; rw [hc]; rfl
      rw [hs]
      rcases ih (by omega) with ⟨h1, h2⟩ | ⟨h1, h2⟩
      · refine .inl ⟨h1, fun d hd => ?_⟩
        rcases List.mem_append.1 hd with h | h
        · exact h2 d h
        · rw [List.mem_singleton.1 h]; exact hc
      · refine .inr ⟨h1, h2.congr fun x => ⟨fun ⟨d, hd, a, b⟩ => ⟨d, List.mem_append_left _ hd, a, b⟩, fun ⟨d, hd, a, b⟩ => ?_⟩⟩
        rcases List.mem_append.1 hd with h | h
        · exact ⟨d, h, a, b⟩
        · rw [List.mem_singleton.1 h, hc] at a; cases a
    | true =>
      have hs : accStep can nows (accTo can nows k ds) ds[k] = addB (accTo can nows k ds) (nows ds[k]) := by unfold accStep; rw [hc]; rfl
      have hnl := hn _ (List.getElem_mem hkl) hc
      rw [hs]
      right
      rcases ih (by omega) with ⟨h1, h2⟩ | ⟨h1, h2⟩
      · rw [h1]
        have ha : addB [] (nows ds[k]) = nows ds[k] := by unfold addB; rw [if_pos rfl]
        rw [ha]
        refine ⟨hnl, ?_⟩
        refine (HullOf.one _).congr fun x => ⟨fun e => ⟨ds[k], List.mem_append_right _ (List.mem_singleton.2 rfl), hc, e⟩, fun ⟨d, hd, a, b⟩ => ?_⟩
        rcases List.mem_append.1 hd with h | h
        · rw [h2 d h] at a; cases a
        · rw [List.mem_singleton.1 h] at b; exact b
      · have hne : accTo can nows k ds ≠ [] := fun e => by rw [e] at h1; simp at h1; omega
        have ha : addB (accTo can nows k ds) (nows ds[k]) = List.zipWith widR (accTo can nows k ds) (nows ds[k]) := by unfold addB; rw [if_neg hne]
        rw [ha]
        refine ⟨by simp [h1, hnl], ?_⟩
        have hg : (List.zipWith widR (accTo can nows k ds) (nows ds[k])).getD i (0, 0) = widR ((accTo can nows k ds).getD i (0, 0)) ((nows ds[k]).getD i (0, 0)) := by
          have h3 : i < (accTo can nows k ds).length := by omega
          have h4 : i < (nows ds[k]).length := by omega
          simp only [List.getD_eq_getElem?_getD, List.getElem?_zipWith, List.getElem?_eq_getElem h3, List.getElem?_eq_getElem h4, Option.getD_some]
        rw [hg]
        refine (h2.add _).congr fun x => ⟨?_, ?_⟩
        · rintro (⟨d, hd, a, b⟩ | e)
          · exact ⟨d, List.mem_append_left _ hd, a, b⟩
          · exact ⟨ds[k], List.mem_append_right _ (List.mem_singleton.2 rfl), hc, e⟩
        · rintro ⟨d, hd, a, b⟩
          rcases List.mem_append.1 hd with h | h
          · exact .inl ⟨d, h, a, b⟩
          · rw [List.mem_singleton.1 h] at b; exact .inr b

/-! ### Shares of a pot -/
def nowsS (l : LedgerD) (pot : Int) (d : List Int) : List Rng := (shareL pot (d.take l.field.weeders.toNat)).map fun x => (x, x)
def noneS (l : LedgerD) (ds : List (List Int)) : Bool := ds.any fun d => canPay l [] d && d == [0, 0, 0]
def shrTo (l : LedgerD) (pot : Int) (k : Nat) (ds : List (List Int)) : List Rng := accTo (canPay l []) (nowsS l pot) k ds
def shrL (l : LedgerD) (pot : Int) (ds : List (List Int)) : List Rng := shrTo l pot ds.length ds
theorem sumI_take3 {d : List Int} (h3 : d.length = 3) (hd : ∀ i, i < 3 → 0 ≤ d.getD i 0) {n : Nat} (hn : n ≤ 3) (hz : ∀ i, n ≤ i → i < 3 → d.getD i 0 = 0) : 0 ≤ sumI (d.take n) ∧ (sumI (d.take n) = 0 ↔ d = [0, 0, 0]) := by
  match d, h3 with
  | [a, b, c], _ =>
    have h0 := hd 0 (by omega)
    have h1 := hd 1 (by omega)
    have h2 := hd 2 (by omega)
    simp at h0 h1 h2
    rcases (by omega : n = 0 ∨ n = 1 ∨ n = 2 ∨ n = 3) with rfl | rfl | rfl | rfl
    · have z0 := hz 0 (by omega) (by omega)
      have z1 := hz 1 (by omega) (by omega)
      have z2 := hz 2 (by omega) (by omega)
      simp at z0 z1 z2
      simp [sumI, z0, z1, z2]
    · have z1 := hz 1 (by omega) (by omega)
      have z2 := hz 2 (by omega) (by omega)
      simp at z1 z2
      simp [sumI, z1, z2]; omega
    · have z2 := hz 2 (by omega) (by omega)
      simp at z2
      simp [sumI, z2]; omega
    · simp [sumI]; omega
end Go.Proofs.Ytechgmnkcijahaa
