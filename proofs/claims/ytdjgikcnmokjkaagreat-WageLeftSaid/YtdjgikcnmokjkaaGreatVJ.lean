/-
  Plain: shares are whole parts of an amount, of some of them a penny more; safe payments.
-/
import Derived.WalkKit
import Derived.WalkLawsBesides
import Derived.WalkSpells
import Derived.Outline
import Derived.Handy
import Derived.KernelRfl
import Derived.Lib.Hide
import Derived.Test.YtdjgikcnmokjkaaGreatUJ
namespace Go.Proofs.YtdjgikcnmokjkaaGreat
open Go.RowKit Go.RG Go.SL Go.Shelf Cou Go.TB
set_option maxHeartbeats 1000000

/-- A share is the whole part, or a penny more where there is a rest; together they are the amount. -/
theorem share_parts {of : Int} {ns : List Int} (hs : 0 < sumI ns) (h3 : ns.length ≤ 3) :
    (∀ i, i < ns.length → (shareL of ns).getD i 0 = quoS of ns i ∨ ((shareL of ns).getD i 0 = quoS of ns i + 1 ∧ 0 < remS of ns i)) ∧ sumI (shareL of ns) = of := by
  have hne : ns ≠ [] := fun e => by rw [e] at hs; simp [sumI] at hs
  obtain ⟨l0, l1, l2⟩ := left_bd (of := of) hs hne
  have hr : ∀ i, 0 ≤ remS of ns i ∧ remS of ns i < sumI ns := fun i => ⟨Int.emod_nonneg _ (by omega), Int.emod_lt_of_pos _ hs⟩
  have hof : of = sumI (quosL of ns) + leftS of ns := by unfold leftS; omega
  rw [show (sumI (shareL of ns) = of) = (sumI (shareL of ns) = sumI (quosL of ns) + leftS of ns) from by rw [← hof]]
  unfold shareL orderS
  generalize leftS of ns = L at *
  obtain ⟨k, rfl⟩ : ∃ k : Nat, L = k := ⟨L.toNat, by omega⟩
  rw [Int.toNat_natCast]
  have hk : k < ns.length := by omega
  unfold remsL at l2
  unfold quosL insL befS
  have h0' := hr 0
  have h1' := hr 1
  have h2' := hr 2
  clear hof hr
  generalize remS of ns = R at *
  generalize quoS of ns = Q at *
  have hu : (upto ns.length).length = ns.length := by simp [upto]
  rw [hu]
  generalize sumI ns = S at *
  generalize ns.length = n at *
  rcases (by omega : n = 1 ∨ n = 2 ∨ n = 3) with rfl | rfl | rfl
  · have : k = 0 := by omega
    subst this
    refine ⟨fun i hi => .inl ?_, by simp [plusTo]⟩
    have : i = 0 := by omega
    subst this; rfl
  · rcases (by omega : k = 0 ∨ k = 1) with rfl | rfl
    · refine ⟨fun i hi => .inl ?_, by simp [plusTo]⟩
      rcases (by omega : i = 0 ∨ i = 1) with rfl | rfl <;> rfl
    · simp [List.range_succ, sumI] at l2
      by_cases c : R 0 < R 1 <;> simp [upto, List.range_succ, insTo, insAt, plusTo, c, sumI]
      · refine ⟨fun i hi => ?_, by omega⟩
        rcases (by omega : i = 0 ∨ i = 1) with rfl | rfl <;> simp <;> omega
      · refine ⟨fun i hi => ?_, by omega⟩
        rcases (by omega : i = 0 ∨ i = 1) with rfl | rfl <;> simp <;> omega
  · rcases (by omega : k = 0 ∨ k = 1 ∨ k = 2) with rfl | rfl | rfl
    · refine ⟨fun i hi => .inl ?_, by simp [plusTo]⟩
      rcases (by omega : i = 0 ∨ i = 1 ∨ i = 2) with rfl | rfl | rfl <;> rfl
    · simp [List.range_succ, sumI] at l2
      by_cases c : R 0 < R 1 <;> by_cases d : R 1 < R 2 <;> by_cases e : R 0 < R 2 <;> (try omega) <;> simp [upto, List.range_succ, insTo, insAt, plusTo, c, d, e, sumI] <;>
        (refine ⟨fun i hi => ?_, by omega⟩; rcases (by omega : i = 0 ∨ i = 1 ∨ i = 2) with rfl | rfl | rfl <;> simp <;> omega)
    · simp [List.range_succ, sumI] at l2
      by_cases c : R 0 < R 1 <;> by_cases d : R 1 < R 2 <;> by_cases e : R 0 < R 2 <;> (try omega) <;> simp [upto, List.range_succ, insTo, insAt, plusTo, c, d, e, sumI] <;>
        (refine ⟨fun i hi => ?_, by omega⟩; rcases (by omega : i = 0 ∨ i = 1 ∨ i = 2) with rfl | rfl | rfl <;> simp <;> omega)

/-! ### Safe payments -/
def svL (ls : List Int) (of : Int) : List Int := if sumI ls ≤ of then ls else shareL of ls
theorem safeV_eq (l : LedgerD) (of : Int) : safeV l of = svL (leastW l) of := rfl
theorem svL_len (ls : List Int) (of : Int) : (svL ls of).length = ls.length := by unfold svL; split; rfl; exact shareL_len _ _

theorem quo_le {ls : List Int} (hb : ∀ x ∈ ls, 0 ≤ x) {m : Int} (h0 : 0 ≤ m) (hm : m < sumI ls) {i : Nat} (hi : i < ls.length) : 0 ≤ quoS m ls i ∧ quoS m ls i ≤ ls.getD i 0 ∧ (0 < remS m ls i → quoS m ls i + 1 ≤ ls.getD i 0) := by
  have hx := hb _ (List.getElem_mem hi)
  unfold quoS remS
  rw [show ls.getD i 0 = ls[i] from by simp [List.getD, hi]]
  generalize ls[i] = x at *
  have hS : 0 < sumI ls := by omega
  generalize sumI ls = S at *
  have h1 : m * x ≤ S * x := Int.mul_le_mul_of_nonneg_right (by omega) hx
  have h2 := Int.mul_ediv_add_emod (m * x) S
  have h3 := Int.emod_nonneg (m * x) (show S ≠ 0 by omega)
  have h4 : S * (m * x / S) ≤ S * x := by omega
  have h5 := Int.le_of_mul_le_mul_left h4 hS
  refine ⟨Int.ediv_nonneg (Int.mul_nonneg h0 hx) (by omega), h5, fun h => ?_⟩
  have h6 : S * (m * x / S) < S * x := by omega
  have := Int.lt_of_mul_lt_mul_left h6 (by omega)
  omega

theorem svL_at {ls : List Int} (h3 : ls.length ≤ 3) (hb : ∀ x ∈ ls, 0 ≤ x) {m : Int} (h0 : 0 ≤ m) {i : Nat} (hi : i < ls.length) : 0 ≤ (svL ls m).getD i 0 ∧ (svL ls m).getD i 0 ≤ ls.getD i 0 := by
  unfold svL
  split
  · have := hb _ (List.getElem_mem hi)
    rw [show ls.getD i 0 = ls[i] from by simp [List.getD, hi]]
    omega
  · rename_i hm
    obtain ⟨q0, q1, q2⟩ := quo_le hb h0 (by omega) hi
    rcases (share_parts (of := m) (ns := ls) (by omega) h3).1 i hi with h | ⟨h, hr⟩
    · omega
    · have := q2 hr; omega
theorem svL_sum {ls : List Int} (h3 : ls.length ≤ 3) {m : Int} (h0 : 0 ≤ m) : sumI (svL ls m) ≤ m ∧ (sumI (svL ls m) = m ∨ svL ls m = ls) := by
  unfold svL
  split
  · exact ⟨by assumption, .inr rfl⟩
  · have := (share_parts (of := m) (ns := ls) (by omega) h3).2
    exact ⟨by omega, .inl this⟩
theorem svL_more {ls : List Int} (h3 : ls.length ≤ 3) (hb : ∀ x ∈ ls, 0 ≤ x) {m m2 : Int} (h0 : 0 ≤ m) (hm : m ≤ m2) {i : Nat} (hi : i < ls.length) : (svL ls m).getD i 0 - 1 ≤ (svL ls m2).getD i 0 := by
  by_cases h2 : sumI ls ≤ m2
  · have h1 := svL_at h3 hb h0 hi
    have : svL ls m2 = ls := by unfold svL; rw [if_pos h2]
    rw [this]
    omega
  · have e1 : svL ls m = shareL m ls := by unfold svL; rw [if_neg (by omega)]
    have e2 : svL ls m2 = shareL m2 ls := by unfold svL; rw [if_neg h2]
    rw [e1, e2]
    have hx := hb _ (List.getElem_mem hi)
    have hq : quoS m ls i ≤ quoS m2 ls i := by
      unfold quoS
      rw [show ls.getD i 0 = ls[i] from by simp [List.getD, hi]]
      exact Int.ediv_le_ediv (by omega) (Int.mul_le_mul_of_nonneg_right hm hx)
    have h4 := (share_parts (of := m) (ns := ls) (by omega) h3).1 i hi
    have h5 := (share_parts (of := m2) (ns := ls) (by omega) h3).1 i hi
    omega

/-- The law's answers, in plain. -/
theorem safe_ok {l : LedgerD} (ha : askedErr l true = 0) {m : Int} (h0 : 0 ≤ m) : proveSafeB l (safeV l m) = true := by
  obtain ⟨hS, hp⟩ := asked_ok ha
  obtain ⟨h1, h2⟩ := least_bd hS hp
  have hw3 := (soundF_of hS.field).weed1
  unfold proveSafeB
  rw [ha, safeV_eq, svL_len, h1]
  simp only [decide_true, Bool.true_and]
  unfold safeTo
  rw [List.all_eq_true]
  intro i hi
  have := svL_at (ls := leastW l) (by omega) (fun x hx => (h2 x hx).1) h0 (i := i) (by rw [h1]; exact List.mem_range.1 hi)
  unfold inB
  simpa using this
theorem safe_more {l : LedgerD} (ha : askedErr l true = 0) {m : Int} (h0 : 0 ≤ m) {k : Nat} (hk : k < l.field.weeders.toNat) : sumI (safeV l m) = m ∨ proveSafeB l ((safeV l m).set k ((safeV l m).getD k 0 + 1)) = false := by
  obtain ⟨hS, hp⟩ := asked_ok ha
  obtain ⟨h1, h2⟩ := least_bd hS hp
  have hw3 := (soundF_of hS.field).weed1
  rcases (svL_sum (ls := leastW l) (by omega) h0).2 with h | h
  · exact .inl h
  · right
    rw [safeV_eq, h]
    have : safeTo (leastW l) ((leastW l).set k ((leastW l).getD k 0 + 1)) l.field.weeders.toNat = false := by
      refine safeTo_bad hk ?_
      have hkl : k < (leastW l).length := by omega
      rw [show ((leastW l).set k ((leastW l).getD k 0 + 1)).getD k 0 = (leastW l).getD k 0 + 1 from by simp [List.getD, hkl]]
      unfold inB
      rw [Bool.and_eq_false_iff]
      right
      simp only [decide_eq_false_iff_not]
      omega
    unfold proveSafeB
    rw [this]
    simp
end Go.Proofs.YtdjgikcnmokjkaaGreat
