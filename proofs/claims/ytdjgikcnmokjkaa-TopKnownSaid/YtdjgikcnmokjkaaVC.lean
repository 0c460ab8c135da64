/-
  Which rows settle a weeder of a field, or all of them; the fewest ones. No program in sight.
-/
import Derived.WalkKit
import Derived.WalkLawsBesides
import Derived.WalkSpells
import Derived.Outline
import Derived.Handy
import Derived.KernelRfl
import Derived.Lib.Hide
import Derived.Test.YtdjgikcnmokjkaaVA
namespace Go.Proofs.Ytdjgikcnmokjkaa
open Cou

/-- Whether two truths say the same of some rows. -/
def sameOn (rows : List Int) (a b : List Int) : Bool := rows.all fun r => a.getD r.toNat 0 == b.getD r.toNat 0
def doneF (f : FieldD) (a : List Int) (who : Int) : Int := didT a who 0 (f.rows - 1)
def settlesF (f : FieldD) (w : Int) (rows : List Int) : Bool := (truthsF f []).all fun a => (truthsF f []).all fun b => !sameOn rows a b || doneF f a w == doneF f b w
def settlesAll (f : FieldD) (rows : List Int) : Bool := (List.range f.weeders.toNat).all fun (i : Nat) => settlesF f (i : Int) rows
def askS (f : FieldD) (w : Int) : Option (List Int) := shortL f.rows.toNat (settlesF f w)
def askF (f : FieldD) (w : Int) : List Int := (askS f w).getD []
def settleS (f : FieldD) : Option (List Int) := shortL f.rows.toNat (settlesAll f)
def settleF (f : FieldD) : List Int := (settleS f).getD []

theorem settlesF_iff {f : FieldD} {w : Int} {rows : List Int} : settlesF f w rows = true ↔ ∀ a ∈ truthsF f [], ∀ b ∈ truthsF f [], sameOn rows a b = true → doneF f a w = doneF f b w := by
  unfold settlesF
  simp only [List.all_eq_true, Bool.or_eq_true, Bool.not_eq_true', beq_iff_eq]
  constructor
  · intro h a ha b hb hs
    rcases h a ha b hb with h1 | h1
    · rw [hs] at h1; cases h1
    · exact h1
  · intro h a ha b hb
    cases hs : sameOn rows a b
    · exact .inl rfl
    · exact .inr (h a ha b hb hs)

theorem sameOn_iff {rows a b : List Int} : sameOn rows a b = true ↔ ∀ r ∈ rows, a.getD r.toNat 0 = b.getD r.toNat 0 := by
  unfold sameOn
  simp only [List.all_eq_true, beq_iff_eq]

theorem truthsF_mem {f : FieldD} {out a : List Int} (h : a ∈ truthsF f out) : a ∈ allF f ∧ rightF f out a = true := List.mem_filter.1 h
theorem truthsF_len {f : FieldD} {out a : List Int} (h : a ∈ truthsF f out) : a.length = f.rows.toNat := (mem_allF.1 (truthsF_mem h).1).1

theorem settles_more {f : FieldD} {w : Int} {r s : List Int} (h : settlesF f w r = true) (hs : ∀ x ∈ r, x ∈ s) : settlesF f w s = true := by
  rw [settlesF_iff] at h ⊢
  intro a ha b hb hsame
  rw [sameOn_iff] at hsame
  exact h a ha b hb (sameOn_iff.2 fun x hx => hsame x (hs x hx))

theorem settles_full {f : FieldD} {w : Int} : settlesF f w (upto f.rows.toNat) = true := by
  rw [settlesF_iff]
  intro a ha b hb hs
  have e : a = b := by
    have la := truthsF_len ha
    have lb := truthsF_len hb
    refine List.ext_getElem (by omega) fun i h1 h2 => ?_
    have := sameOn_iff.1 hs (i : Int) (List.mem_map.2 ⟨i, List.mem_range.2 (by omega), rfl⟩)
    simpa [List.getD, h1, h2] using this
  rw [e]

theorem settlesAll_iff {f : FieldD} {rows : List Int} : settlesAll f rows = true ↔ ∀ i : Nat, i < f.weeders.toNat → settlesF f (i : Int) rows = true := by
  unfold settlesAll
  simp [List.all_eq_true]

theorem inc_upto (n : Nat) : Inc n 0 (upto n) := by
  have := inc_range n 0 n (by omega)
  unfold upto
  rw [← List.range_eq_range'] at this
  exact this

theorem askS_some (f : FieldD) (w : Int) : ∃ c, askS f w = some c := by
  cases h : askS f w with
  | some c => exact ⟨c, rfl⟩
  | none => have := shortL_none h _ (inc_upto _); rw [settles_full] at this; cases this
theorem settleS_some (f : FieldD) : ∃ c, settleS f = some c := by
  cases h : settleS f with
  | some c => exact ⟨c, rfl⟩
  | none => have := shortL_none h _ (inc_upto _); rw [settlesAll_iff.2 fun _ _ => settles_full] at this; cases this

theorem askF_spec (f : FieldD) (w : Int) : askS f w = some (askF f w) ∧ settlesF f w (askF f w) = true ∧ Inc f.rows.toNat 0 (askF f w) ∧ ∀ x, Inc f.rows.toNat 0 x → settlesF f w x = true → shorter x (askF f w) = false := by
  obtain ⟨c, hc⟩ := askS_some f w
  have : askF f w = c := by unfold askF; rw [hc]; rfl
  rw [this]
  exact ⟨hc, shortL_some hc⟩
theorem settleF_spec (f : FieldD) : settleS f = some (settleF f) ∧ settlesAll f (settleF f) = true ∧ Inc f.rows.toNat 0 (settleF f) ∧ ∀ x, Inc f.rows.toNat 0 x → settlesAll f x = true → shorter x (settleF f) = false := by
  obtain ⟨c, hc⟩ := settleS_some f
  have : settleF f = c := by unfold settleF; rw [hc]; rfl
  rw [this]
  exact ⟨hc, shortL_some hc⟩

theorem le_of_not_shorter {a b : List Int} (h : shorter a b = false) : b.length ≤ a.length := by
  unfold shorter at h
  simp only [Bool.or_eq_false_iff, decide_eq_false_iff_not] at h
  omega

/-- The rows that settle one weeder are at most as many as those that settle all. -/
theorem ask_le (f : FieldD) {i : Nat} (hi : i < f.weeders.toNat) : (askF f (i : Int)).length ≤ (settleF f).length := by
  obtain ⟨_, h1, h2, _⟩ := settleF_spec f
  exact le_of_not_shorter ((askF_spec f (i : Int)).2.2.2 _ h2 (settlesAll_iff.1 h1 i hi))

/-- A list that has the rows of each weeder is at least as long as the one that settles all. -/
theorem settle_le (f : FieldD) {x : List Int} (hx : Inc f.rows.toNat 0 x) (h : ∀ i : Nat, i < f.weeders.toNat → ∀ r ∈ askF f (i : Int), r ∈ x) : (settleF f).length ≤ x.length :=
  le_of_not_shorter ((settleF_spec f).2.2.2 _ hx (settlesAll_iff.2 fun i hi => settles_more (askF_spec f (i : Int)).2.1 (h i hi)))

/-- What a truth says of some rows, and 0 elsewhere: a key. -/
def keyF (rows a : List Int) : List Int := (List.range 7).map fun (i : Nat) => if rows.contains (i : Int) then a.getD i 0 else 0
theorem keyF_len (rows a : List Int) : (keyF rows a).length = 7 := by simp [keyF]
theorem keyF_get (rows a : List Int) {i : Nat} (hi : i < 7) : (keyF rows a).getD i 0 = if rows.contains (i : Int) then a.getD i 0 else 0 := by
  unfold keyF
  rw [List.getD_eq_getElem?_getD, List.getElem?_map, List.getElem?_range hi]
  rfl
theorem ext7 {a b : List Int} (ha : a.length = 7) (hb : b.length = 7) (h : ∀ i, i < 7 → a.getD i 0 = b.getD i 0) : a = b := by
  refine List.ext_getElem (by omega) fun i h1 h2 => ?_
  have := h i (by omega)
  simpa [List.getD, h1, h2] using this
theorem keyF_nil (a : List Int) : keyF [] a = List.replicate 7 0 := rfl
theorem keyF_snoc (rs a : List Int) (r : Int) (h0 : 0 ≤ r) (h7 : r < 7) : (keyF rs a).set r.toNat (a.getD r.toNat 0) = keyF (rs ++ [r]) a := by
  refine ext7 (by simp [keyF_len]) (keyF_len _ _) fun i hi => ?_
  rw [keyF_get _ _ hi]
  by_cases e : r.toNat = i
  · have : r = (i : Int) := by omega
    subst this
    simp [List.getD_eq_getElem?_getD, keyF_len, hi]
  · have hne : ((i : Int) == r) = false := by simp; omega
    rw [List.getD_eq_getElem?_getD, List.getElem?_set_ne e, ← List.getD_eq_getElem?_getD, keyF_get _ _ hi]
    simp only [List.contains_append, List.contains_cons, hne, List.contains_nil, Bool.or_false]
theorem keyF_eq {rows a b : List Int} (hr : ∀ r ∈ rows, 0 ≤ r ∧ r < 7) : keyF rows a = keyF rows b ↔ sameOn rows a b = true := by
  rw [sameOn_iff]
  constructor
  · intro h r hm
    obtain ⟨h0, h7⟩ := hr r hm
    have e := congrArg (fun l => l.getD r.toNat 0) h
    simp only [keyF_get _ _ (show r.toNat < 7 by omega)] at e
    have hc : rows.contains ((r.toNat : Nat) : Int) = true := by rw [show ((r.toNat : Nat) : Int) = r from by omega]; simpa using hm
    rw [hc] at e
    simpa using e
  · intro h
    refine ext7 (keyF_len _ _) (keyF_len _ _) fun i hi => ?_
    rw [keyF_get _ _ hi, keyF_get _ _ hi]
    cases hc : rows.contains (i : Int)
    · rfl
    · have := h (i : Int) (by simpa using hc)
      simpa using this

end Go.Proofs.Ytdjgikcnmokjkaa
