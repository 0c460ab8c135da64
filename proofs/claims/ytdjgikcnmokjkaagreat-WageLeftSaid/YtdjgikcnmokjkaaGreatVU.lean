/-
  Plain, for WageLeft: a ledger whose rate, box and pence are multiplied by a number.
-/
import Derived.WalkKit
import Derived.WalkLawsBesides
import Derived.WalkSpells
import Derived.Outline
import Derived.Handy
import Derived.KernelRfl
import Derived.Lib.Hide
import Derived.Test.YtdjgikcnmokjkaaGreatVO
namespace Go.Proofs.YtdjgikcnmokjkaaGreat
open Go.RowKit Go.RG Go.SL Go.Shelf Cou Go.TB
set_option maxHeartbeats 400000
set_option maxRecDepth 10000

def scaR (k : Int) (r : Rng) : Rng := (k * r.1, k * r.2)
def scaN (k : Int) (x : Rdg) : Rdg := (x.1, scaR k x.2)
def scaL (k : Int) (l : LedgerD) : LedgerD := ⟨l.field, k * l.rate, scaR k l.box, l.notes.map (scaN k)⟩

theorem mul_le_iff {k : Int} (hk : 0 < k) (a b : Int) : k * a ≤ k * b ↔ a ≤ b := ⟨fun h => Int.le_of_mul_le_mul_left h hk, fun h => Int.mul_le_mul_of_nonneg_left h (Int.le_of_lt hk)⟩
theorem scaR_both {k : Int} (hk : 0 < k) (r x : Rng) : bothR (scaR k r) (scaR k x) = scaR k (bothR r x) := by
  unfold bothR scaR
  simp only [Prod.mk.injEq]
  constructor
  · rcases Int.le_total r.1 x.1 with h | h
    · rw [Int.max_eq_right h, Int.max_eq_right ((mul_le_iff hk _ _).2 h)]
    · rw [Int.max_eq_left h, Int.max_eq_left ((mul_le_iff hk _ _).2 h)]
  · rcases Int.le_total r.2 x.2 with h | h
    · rw [Int.min_eq_left h, Int.min_eq_left ((mul_le_iff hk _ _).2 h)]
    · rw [Int.min_eq_right h, Int.min_eq_right ((mul_le_iff hk _ _).2 h)]
theorem scaN_get {k : Int} (ns : List Rdg) (i : Nat) : (ns.map (scaN k)).getD i (0, (0, 0)) = scaN k (ns.getD i (0, (0, 0))) := by
  simp only [List.getD, List.getElem?_map]
  cases ns[i]? <;> simp [scaN, scaR]
theorem scaD_get (k : Int) (d : List Int) (i : Nat) : (d.map (k * ·)).getD i 0 = k * d.getD i 0 := by
  simp only [List.getD, List.getElem?_map]
  cases d[i]? <;> simp
theorem sca_known {k : Int} (hk : 0 < k) (l : LedgerD) (out : List Int) (i : Nat) (due : Int) : knownL (scaL k l) out i (k * due) = scaR k (knownL l out i due) := by
  unfold knownL scaL
  simp only [List.length_map, scaN_get]
  have e : ∀ j : Nat, (scaN k (l.notes.getD j (0, (0, 0)))).1 = (l.notes.getD j (0, (0, 0))).1 := fun _ => rfl
  simp only [e]
  have f : ∀ (js : List Nat) (r : Rng), js.foldl (fun r j => bothR r (scaN k (l.notes.getD j (0, (0, 0)))).2) (scaR k r) = scaR k (js.foldl (fun r j => bothR r (l.notes.getD j (0, (0, 0))).2) r) := by
    intro js
    induction js with
    | nil => intro r; rfl
    | cons j js ih =>
      intro r
      rw [List.foldl_cons, List.foldl_cons, ← ih, ← scaR_both hk]
      rfl
  rw [← f]
  congr 1
  unfold scaR
  simp
theorem sca_alone {k : Int} (hk : 0 < k) (l : LedgerD) (out d : List Int) : alone (scaL k l) out (d.map (k * ·)) = (alone l out d).map (scaR k) := by
  unfold alone
  rw [List.map_map]
  refine List.map_congr_left fun i _ => ?_
  rw [scaD_get, sca_known hk]
  rfl
theorem sumI_mul (k : Int) : ∀ l : List Int, sumI (l.map (k * ·)) = k * sumI l
  | [] => by simp [sumI]
  | x :: l => by rw [List.map_cons, sumI_cons, sumI_cons, sumI_mul k l, Int.mul_add]
theorem sca_low {k : Int} (hk : 0 < k) (l : LedgerD) (out d : List Int) : lowL (scaL k l) out (d.map (k * ·)) = k * lowL l out d := by
  unfold lowL
  rw [sca_alone hk, List.map_map, ← sumI_mul, List.map_map]
  rfl
theorem sca_high {k : Int} (hk : 0 < k) (l : LedgerD) (out d : List Int) : highL (scaL k l) out (d.map (k * ·)) = k * highL l out d := by
  unfold highL
  rw [sca_alone hk, List.map_map, ← sumI_mul, List.map_map]
  rfl
theorem sca_can {k : Int} (hk : 0 < k) (l : LedgerD) (out d : List Int) : canPay (scaL k l) out (d.map (k * ·)) = canPay l out d := by
  unfold canPay
  rw [sca_low hk, sca_high hk, sca_alone hk, List.all_map]
  have e : ((fun r : Rng => decide (r.1 ≤ r.2)) ∘ scaR k) = fun r : Rng => decide (r.1 ≤ r.2) := by
    funext r
    exact decide_eq_decide.2 (mul_le_iff hk _ _)
  rw [e]
  congr 1
  · congr 1
    exact decide_eq_decide.2 (mul_le_iff hk _ _)
  · exact decide_eq_decide.2 (mul_le_iff hk _ _)
theorem sca_dues (k rate : Int) (t : List Int) : duesV (k * rate) t = (duesV rate t).map (k * ·) := by
  unfold duesV
  rw [List.map_map]
  refine List.map_congr_left fun i _ => ?_
  rw [Int.mul_assoc]
  rfl
theorem sca_duesT {k : Int} {l : LedgerD} {d : List Int} : d ∈ duesT (scaL k l) ↔ ∃ e ∈ duesT l, d = e.map (k * ·) := by
  rw [mem_duesT]
  constructor
  · rintro ⟨t, ht, rfl⟩
    exact ⟨_, mem_duesT.2 ⟨t, ht, rfl⟩, sca_dues k l.rate t⟩
  · rintro ⟨e, he, rfl⟩
    obtain ⟨t, ht, rfl⟩ := mem_duesT.1 he
    exact ⟨t, ht, (sca_dues k l.rate t).symm⟩
theorem sca_possible {k : Int} (hk : 0 < k) (l : LedgerD) : possibleL (scaL k l) = possibleL l := by
  funext out
  unfold possibleL
  rw [Bool.eq_iff_iff, List.any_eq_true, List.any_eq_true]
  constructor
  · rintro ⟨d, hd, h⟩
    obtain ⟨e, he, rfl⟩ := sca_duesT.1 hd
    exact ⟨e, he, by rw [sca_can hk] at h; exact h⟩
  · rintro ⟨e, he, h⟩
    exact ⟨_, sca_duesT.2 ⟨e, he, rfl⟩, by rw [sca_can hk]; exact h⟩
theorem sca_leave {k : Int} (hk : 0 < k) (l : LedgerD) : leaveW (scaL k l) = leaveW l := by
  unfold leaveW
  rw [sca_possible hk]
  simp [scaL]
theorem sca_asked {k : Int} (hk : 0 < k) {l : LedgerD} (h : faultW l = 0) (hs : faultW (scaL k l) = 0) : askedErr (scaL k l) true = askedErr l true := by
  unfold askedErr
  rw [h, hs, sca_possible hk]
theorem HullOf.sca {k : Int} (hk : 0 < k) {S T : Rng → Prop} {r : Rng} (h : HullOf S r) (e : ∀ z, T z ↔ ∃ y, S y ∧ z = scaR k y) : HullOf T (scaR k r) := by
  obtain ⟨⟨⟨a, ha, ha'⟩, h1⟩, ⟨b, hb, hb'⟩, h2⟩ := h
  refine ⟨⟨⟨_, (e _).2 ⟨a, ha, rfl⟩, by unfold scaR; simp only; rw [ha']⟩, fun z hz => ?_⟩, ⟨_, (e _).2 ⟨b, hb, rfl⟩, by unfold scaR; simp only; rw [hb']⟩, fun z hz => ?_⟩
  · obtain ⟨y, hy, rfl⟩ := (e _).1 hz
    exact (mul_le_iff hk _ _).2 (h1 y hy)
  · obtain ⟨y, hy, rfl⟩ := (e _).1 hz
    exact (mul_le_iff hk _ _).2 (h2 y hy)
/-- What is earned is multiplied. -/
theorem sca_earned {k : Int} (hk : 0 < k) {l : LedgerD} (ha : askedErr l true = 0) (has : askedErr (scaL k l) true = 0) {i : Nat} (hi : i < l.field.weeders.toNat) :
    (bndL partE (scaL k l) (duesT (scaL k l))).getD i (0, 0) = scaR k ((bndL partE l (duesT l)).getD i (0, 0)) := by
  have h1 := bnd_hull (asked_ok ha).2 partE hi
  have h2 := bnd_hull (asked_ok has).2 partE (i := i) hi
  refine h2.unique (h1.sca hk fun z => ?_)
  constructor
  · rintro ⟨d, hd, hc, rfl⟩
    obtain ⟨e, he, rfl⟩ := sca_duesT.1 hd
    rw [sca_can hk] at hc
    refine ⟨_, ⟨e, he, hc, rfl⟩, ?_⟩
    unfold partE scaR
    simp only
    rw [scaD_get]
  · rintro ⟨y, ⟨e, he, hc, rfl⟩, rfl⟩
    refine ⟨_, sca_duesT.2 ⟨e, he, rfl⟩, by rw [sca_can hk]; exact hc, ?_⟩
    unfold partE scaR
    simp only
    rw [scaD_get]
end Go.Proofs.YtdjgikcnmokjkaaGreat
