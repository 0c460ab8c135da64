/-
  What weeders can have been paid, by the notes that are left. No program in sight.
-/
import Derived.WalkKit
import Derived.WalkLawsBesides
import Derived.WalkSpells
import Derived.Outline
import Derived.Handy
import Derived.KernelRfl
import Derived.Lib.Hide
import Derived.Test.YtdjgikcnmokjkaaVD
namespace Go.Proofs.Ytdjgikcnmokjkaa
open Cou

/-- The first notes, without those that are left out. -/
def leftTo (l : LedgerD) (out : List Int) (k : Nat) : List (Int × Rng) := ((List.range k).filter fun (i : Nat) => !out.contains (i : Int)).map fun i => l.notes.getD i (0, (0, 0))
def leftL (l : LedgerD) (out : List Int) : List (Int × Rng) := leftTo l out l.notes.length
theorem leftTo_yes {l : LedgerD} {out : List Int} {k : Nat} (h : out.contains (k : Int) = false) : leftTo l out (k + 1) = leftTo l out k ++ [l.notes.getD k (0, (0, 0))] := by
  unfold leftTo
  rw [List.range_succ, List.filter_append, List.map_append]
  congr 1
  rw [List.filter_cons_of_pos (by rw [h]; rfl)]
  rfl
theorem leftTo_no {l : LedgerD} {out : List Int} {k : Nat} (h : out.contains (k : Int) = true) : leftTo l out (k + 1) = leftTo l out k := by
  unfold leftTo
  rw [List.range_succ, List.filter_append, List.map_append, List.filter_cons_of_neg (by rw [h]; simp)]
  simp
theorem leftTo_len (l : LedgerD) (out : List Int) (k : Nat) : (leftTo l out k).length ≤ k := by
  unfold leftTo
  rw [List.length_map]
  have := List.length_filter_le (fun (i : Nat) => !out.contains (i : Int)) (List.range k)
  simpa using this

/-- What a weeder with a due can have been paid, by some notes. -/
def knTo (ns : List (Int × Rng)) (key : Int × Int) (k : Nat) : Rng := (ns.take k).foldl (fun r n => if n.1 = key.1 then bothR r n.2 else r) (0, key.2)
def kn (ns : List (Int × Rng)) (key : Int × Int) : Rng := knTo ns key ns.length
theorem knTo_succ {ns : List (Int × Rng)} {key : Int × Int} {k : Nat} (hk : k < ns.length) : knTo ns key (k + 1) = if ns[k].1 = key.1 then bothR (knTo ns key k) ns[k].2 else knTo ns key k := by
  unfold knTo
  rw [List.take_succ_eq_append_getElem hk, List.foldl_append]
  rfl

theorem kn_known (l : LedgerD) (out : List Int) (i : Nat) (due : Int) : kn (leftL l out) ((i : Int), due) = knownL l out i due := by
  unfold kn knTo knownL leftL leftTo
  rw [List.take_length, List.foldl_map]
  generalize List.range l.notes.length = ks
  have : ∀ (ks : List Nat) (r : Rng), (ks.filter fun (k : Nat) => !out.contains (k : Int)).foldl (fun r k => if (l.notes.getD k (0, (0, 0))).1 = (i : Int) then bothR r (l.notes.getD k (0, (0, 0))).2 else r) r =
      (ks.filter fun (k : Nat) => !out.contains (k : Int) && (l.notes.getD k (0, (0, 0))).1 == (i : Int)).foldl (fun r k => bothR r (l.notes.getD k (0, (0, 0))).2) r := by
    intro ks
    induction ks with
    | nil => intro r; rfl
    | cons k ks ih =>
      intro r
      cases hc : out.contains (k : Int)
      · by_cases hn : (l.notes.getD k (0, (0, 0))).1 = (i : Int)
        · simp only [List.filter_cons, hc, hn, Bool.not_false, if_true, beq_self_eq_true, Bool.and_self, List.foldl_cons]
          exact ih _
        · have hnb : ((l.notes.getD k (0, (0, 0))).1 == (i : Int)) = false := by simpa using hn
          simp only [List.filter_cons, hc, hnb, hn, Bool.not_false, if_true, if_false, Bool.and_false, Bool.false_eq_true, List.foldl_cons]
          exact ih _
      · simp only [List.filter_cons, hc, Bool.not_true, Bool.false_and, Bool.false_eq_true, if_false]
        exact ih _
  exact this ks (0, due)

theorem sumI_snoc (xs : List Int) (x : Int) : sumI (xs ++ [x]) = sumI xs + x := by
  induction xs with
  | nil => simp [sumI]
  | cons y xs ih => rw [List.cons_append, sumI_cons, sumI_cons, ih]; omega
def sumTo (f : Rng → Int) (rs : List Rng) (k : Nat) : Int := sumI ((rs.take k).map f)
theorem sumTo_succ (f : Rng → Int) {rs : List Rng} {k : Nat} (hk : k < rs.length) : sumTo f rs (k + 1) = sumTo f rs k + f rs[k] := by
  unfold sumTo
  rw [List.take_succ_eq_append_getElem hk, List.map_append, List.map_singleton, sumI_snoc]
theorem sumTo_bd (f : Rng → Int) (rs : List Rng) (h : ∀ r ∈ rs, 0 ≤ f r ∧ f r ≤ 2000) : ∀ k, k ≤ rs.length → 0 ≤ sumTo f rs k ∧ sumTo f rs k ≤ 2000 * k := by
  intro k
  induction k with
  | zero => intro _; simp [sumTo, sumI]
  | succ k ih =>
    intro hk
    have := ih (by omega)
    have := h rs[k] (List.getElem_mem _)
    rw [sumTo_succ f (by omega)]
    omega
theorem sumTo_all (f : Rng → Int) (rs : List Rng) : sumTo f rs rs.length = sumI (rs.map f) := by unfold sumTo; rw [List.take_length]

/-- What can have been paid is an amount, or less than nothing. -/
theorem knTo_bd {ns : List (Int × Rng)} (hn : ∀ x ∈ ns, 0 ≤ x.2.1 ∧ x.2.1 ≤ 2000 ∧ 0 ≤ x.2.2 ∧ x.2.2 ≤ 2000) {key : Int × Int} (h0 : 0 ≤ key.2) (_h1 : key.2 ≤ 2000) : ∀ k, k ≤ ns.length → 0 ≤ (knTo ns key k).1 ∧ (knTo ns key k).1 ≤ 2000 ∧ 0 ≤ (knTo ns key k).2 ∧ (knTo ns key k).2 ≤ key.2 := by
  intro k
  induction k with
  | zero => intro _; simp [knTo]; omega
  | succ k ih =>
    intro hk
    have h := ih (by omega)
    have hx := hn ns[k] (List.getElem_mem _)
    rw [knTo_succ (by omega)]
    split
    · unfold bothR
      simp only
      omega
    · exact h
theorem leftL_mem {l : LedgerD} {out : List Int} {x : Int × Rng} (h : x ∈ leftL l out) : x ∈ l.notes := by
  unfold leftL leftTo at h
  obtain ⟨i, hi, rfl⟩ := List.mem_map.1 h
  have := List.mem_range.1 (List.mem_filter.1 hi).1
  rw [show l.notes.getD i (0, (0, 0)) = l.notes[i] from by simp [List.getD, this]]
  exact List.getElem_mem _

/-- Amounts everywhere: what the checks of a ledger have shown. -/
structure SoundL (l : LedgerD) : Prop where
  field : faultF l.field = 0
  some : truthsF l.field [] ≠ []
  rate : 1 ≤ l.rate ∧ l.rate ≤ 50
  box : 0 ≤ l.box.1 ∧ l.box.1 ≤ l.box.2 ∧ l.box.2 ≤ 2000
  many : l.notes.length ≤ 5
  notes : ∀ x ∈ l.notes, (0 ≤ x.1 ∧ x.1 < l.field.weeders) ∧ (0 ≤ x.2.1 ∧ x.2.1 ≤ x.2.2 ∧ x.2.2 ≤ 2000)

theorem known_bd {l : LedgerD} (hS : SoundL l) (out : List Int) (i : Nat) {due : Int} (h0 : 0 ≤ due) (h1 : due ≤ 2000) : 0 ≤ (knownL l out i due).1 ∧ (knownL l out i due).1 ≤ 2000 ∧ 0 ≤ (knownL l out i due).2 ∧ (knownL l out i due).2 ≤ due := by
  rw [← kn_known]
  exact knTo_bd (fun x hx => by have := hS.notes x (leftL_mem hx); omega) h0 h1 _ (Nat.le_refl _)

theorem alone_len (l : LedgerD) (out d : List Int) : (alone l out d).length = l.field.weeders.toNat := by simp [alone]
theorem alone_get (l : LedgerD) (out d : List Int) {i : Nat} (hi : i < l.field.weeders.toNat) : (alone l out d).getD i (0, 0) = knownL l out i (d.getD i 0) := by
  unfold alone
  rw [List.getD_eq_getElem?_getD, List.getElem?_map, List.getElem?_range hi]
  rfl

end Go.Proofs.Ytdjgikcnmokjkaa
