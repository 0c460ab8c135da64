/-
  The plain laws of chapter 4, eighth part: CouchWetter. No program in sight.
-/
import Derived.WalkKit
import Derived.WalkLawsBesides
import Derived.WalkSpells
import Derived.Outline
import Derived.Handy
import Derived.KernelRfl
import Derived.Lib.Hide
import Derived.Test.YtoibfafmnaooaaaSE
import Derived.Test.YtoibfafmnaooaaaME
namespace Go.Proofs.Ytoibfafmnaooaaa
open Cou

theorem turned_contains {h : HeapD} (bs i : Nat) : (turnedL h bs).contains (i : Int) = (decide (i < h.last.toNat + 1) && bs.testBit i) := by
  rw [Bool.eq_iff_iff]
  unfold turnedL
  rw [List.contains_iff_mem, bitsL_eq (turned_lt h bs), mem_bitsTo, Bool.and_eq_true, decide_eq_true_eq]
  constructor
  · rintro ⟨j, hj, h1, h2⟩
    obtain rfl : i = j := by omega
    rw [Nat.testBit_and, Bool.and_eq_true] at h1
    exact ⟨hj, h1.1⟩
  · rintro ⟨h1, h2⟩
    refine ⟨i, h1, ?_, rfl⟩
    rw [Nat.testBit_and, Nat.testBit_two_pow_sub_one, h2]
    simp [h1]

theorem play_okL {h : HeapD} (hS : Sound h) {t : Int × List Int} (hl : listedT h t = true) {turns : List Int} (htu : isTurns h.last turns = true) :
    playErr h t turns = 0 ∧ (playOut h t turns).length = (h.last + 1).toNat ∧ ∀ j, j < (h.last + 1).toNat → (playOut h t turns).getD j 0 = heatAt h.size h.cool turns t.1 t.2 (j + 1) := by
  have he : playErr h t turns = 0 := by
    unfold playErr
    rw [if_neg (by rw [fault_sound hS]; simp), if_neg (by rw [hl, htu]; simp)]
  have hh : (heats h t turns).length = 10 := heatsTo_length _ _ _ _ _ _
  have h9 := hS.last9
  have hw := hS.wetLen
  have htl := ((listedT_iff hS t).1 hl).1
  refine ⟨he, ?_, fun j hj => ?_⟩
  · unfold playOut
    rw [if_pos he, List.length_take]
    omega
  · unfold playOut
    rw [if_pos he]
    have hj2 : j < (heats h t turns).length := by omega
    have : ((heats h t turns).take (h.last + 1).toNat).getD j 0 = (heats h t turns).getD j 0 := by
      simp [List.getD, hj]
    rw [this, heatI_at (by omega) (by omega)]
    rfl

theorem wetter_plain {h : HeapD} (hS : Sound h) {t : Int × List Int} (hl : listedT h t = true) (bs K : Nat) (hK : (K : Int) ≤ h.last) {D : Int} (hD : 0 ≤ D) {u v : Int × List Int}
    (hu : u = (t.1, t.2.set K (min (h.wet.getD K (0, 0)).2 (t.2.getD K 0 + D)))) (hv : v = (min h.start.2 (t.1 + D), t.2)) {A B C E : List Int}
    (hA : A = playOut h t (turnedL h bs)) (hB : B = playOut h u (turnedL h bs)) (hC : C = playOut h v (turnedL h bs)) (hE : E = playOut h t (turnedL h (bs ||| 2 ^ K))) :
    (playErr h t (turnedL h bs) = 0 ∧ playErr h u (turnedL h bs) = 0 ∧ playErr h v (turnedL h bs) = 0 ∧ playErr h t (turnedL h (bs ||| 2 ^ K)) = 0) ∧
    ((A.length : Int) = h.last + 1 ∧ (B.length : Int) = h.last + 1 ∧ (C.length : Int) = h.last + 1 ∧ (E.length : Int) = h.last + 1) ∧
    ∀ j : Nat, (j : Int) ≤ h.last → A.getD j 0 ≤ B.getD j 0 ∧ A.getD j 0 ≤ C.getD j 0 ∧ E.getD j 0 ≤ A.getD j 0 ∧ ((j : Int) < K → B.getD j 0 = A.getD j 0 ∧ E.getD j 0 = A.getD j 0) := by
  have h0 := hS.last0
  have hwl := hS.wetLen
  obtain ⟨l1, l2, l3⟩ := (listedT_iff hS t).1 hl
  have hKt : K < t.2.length := by omega
  have hwk := l3 K (by omega)
  have hset : ∀ i, (t.2.set K (min (h.wet.getD K (0, 0)).2 (t.2.getD K 0 + D))).getD i 0 = if i = K then min (h.wet.getD K (0, 0)).2 (t.2.getD K 0 + D) else t.2.getD i 0 := fun i => by
    rw [List.getD_eq_getElem?_getD, List.getElem?_set]
    by_cases e : K = i
    · subst e
      simp [hKt]
    · rw [if_neg e, if_neg (fun x => e x.symm), List.getD_eq_getElem?_getD]
  have hlu : listedT h u = true := by
    rw [hu, listedT_iff hS]
    refine ⟨by simpa using l1, l2, fun i hi => ?_⟩
    simp only
    rw [hset i]
    have := l3 i hi
    by_cases e : i = K
    · subst e
      rw [if_pos rfl]
      omega
    · rw [if_neg e]
      exact this
  have hlv : listedT h v = true := by
    rw [hv, listedT_iff hS]
    exact ⟨l1, by simp only; omega, l3⟩
  have ht1 := turned_turns (h := h) h0 bs
  have ht2 := turned_turns (h := h) h0 (bs ||| 2 ^ K)
  obtain ⟨a1, a2, a3⟩ := play_okL hS hl ht1
  obtain ⟨b1, b2, b3⟩ := play_okL hS hlu ht1
  obtain ⟨c1, c2, c3⟩ := play_okL hS hlv ht1
  obtain ⟨e1, e2, e3⟩ := play_okL hS hl ht2
  rw [← hA] at a2 a3
  rw [← hB] at b2 b3
  rw [← hC] at c2 c3
  rw [← hE] at e2 e3
  have hw0 : ∀ i, 0 ≤ t.2.getD i 0 := fun i => by
    by_cases hi : i < h.wet.length
    · have h1 := l3 i hi
      have h2 := hS.wet _ (List.getElem_mem hi)
      rw [getD_lt hi] at h1
      omega
    · rw [List.getD_eq_getElem?_getD, List.getElem?_eq_none (by omega)]
      simp
  have hs0 := hS.start0
  refine ⟨⟨a1, b1, c1, e1⟩, ⟨by omega, by omega, by omega, by omega⟩, fun j hj => ?_⟩
  rw [a3 j (by omega), b3 j (by omega), c3 j (by omega), e3 j (by omega)]
  refine ⟨?_, ?_, ?_, fun hjK => ⟨?_, ?_⟩⟩
  · refine (heatAt_mono hS.size0 hS.cool0 hS.cool1 (fun i h => h) (by rw [hu]; exact Int.le_refl _) (fun i => ?_) (by omega) hw0 (j + 1)).2
    rw [hu]
    simp only
    rw [hset i]
    by_cases e : i = K
    · subst e
      rw [if_pos rfl]
      omega
    · rw [if_neg e]
      exact Int.le_refl _
  · refine (heatAt_mono hS.size0 hS.cool0 hS.cool1 (fun i h => h) (by rw [hv]; simp only; omega) (fun i => by rw [hv]; exact Int.le_refl _) (by omega) hw0 (j + 1)).2
  · refine (heatAt_mono hS.size0 hS.cool0 hS.cool1 (fun i h => ?_) (Int.le_refl _) (fun i => Int.le_refl _) (by omega) hw0 (j + 1)).2
    rw [turned_contains, Bool.and_eq_true] at h ⊢
    rw [Nat.testBit_or, h.2]
    exact ⟨h.1, rfl⟩
  · rw [hu]
    refine heatAt_same (j + 1) fun i hi => ⟨rfl, ?_⟩
    rw [hset i, if_neg (by omega)]
  · refine heatAt_same (j + 1) fun i hi => ⟨?_, rfl⟩
    rw [turned_contains, turned_contains, Nat.testBit_or, Nat.testBit_two_pow]
    rw [show decide (K = i) = false from by simp; omega, Bool.or_false]

end Go.Proofs.Ytoibfafmnaooaaa
