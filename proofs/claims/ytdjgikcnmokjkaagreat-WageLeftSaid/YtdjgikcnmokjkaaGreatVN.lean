/-
  Plain: the shortest list that passes a test, by trying all sets; the rows that settle a ledger, by truths compared two by two.
-/
import Derived.Test.YtdjgikcnmokjkaaGreatVM
namespace Go.Proofs.YtdjgikcnmokjkaaGreat
open Go.RowKit Go.RG Go.SL Go.Shelf Cou Go.TB
set_option maxHeartbeats 400000
set_option maxRecDepth 10000

theorem before_trans : ∀ a b c, before a b = true → before b c = true → before a c = true := by
  intro a
  induction a with
  | nil =>
    intro b c h1 h2
    cases b <;> cases c <;> simp [before] at h1 h2 ⊢
  | cons x a ih =>
    intro b c h1 h2
    cases b with
    | nil => simp [before] at h1
    | cons y b =>
      cases c with
      | nil => simp [before] at h2
      | cons z c =>
        simp only [before] at h1 h2 ⊢
        by_cases e1 : x = y
        · subst e1
          rw [if_pos rfl] at h1
          by_cases e2 : x = z
          · subst e2
            rw [if_pos rfl] at h2 ⊢
            exact ih b c h1 h2
          · rw [if_neg e2] at h2 ⊢
            exact h2
        · rw [if_neg e1] at h1
          by_cases e2 : y = z
          · subst e2
            rw [if_neg e1]
            exact h1
          · rw [if_neg e2] at h2
            simp only [decide_eq_true_eq] at h1 h2
            rw [if_neg (by omega)]
            simp only [decide_eq_true_eq]
            omega
theorem shorter_trans {a b c : List Int} (h1 : shorter a b = true) (h2 : shorter b c = true) : shorter a c = true := by
  simp only [shorter, Bool.or_eq_true, Bool.and_eq_true, decide_eq_true_eq] at h1 h2 ⊢
  rcases h1 with h1 | ⟨h1, g1⟩
  · rcases h2 with h2 | ⟨h2, _⟩ <;> exact .inl (by omega)
  · rcases h2 with h2 | ⟨h2, g2⟩
    · exact .inl (by omega)
    · exact .inr ⟨by omega, before_trans _ _ _ g1 g2⟩

theorem bit_zero (n p : Nat) : (((n / 2 ^ p : Nat) : Int) % 2 == 0) = !n.testBit p := by
  rw [Nat.testBit_eq_decide_div_mod_eq, Bool.eq_iff_iff, beq_iff_eq, Bool.not_eq_true', decide_eq_false_iff_not]
  generalize n / 2 ^ p = d
  omega
theorem bits_full (n : Nat) : bitsL (2 ^ n - 1) = upto n := by
  have h1 := Nat.one_le_two_pow (n := n)
  rw [bitsL_eq (p := n) (by omega)]
  unfold bitsTo upto
  rw [List.filter_eq_self.2]
  intro i hi
  rw [Nat.testBit_two_pow_sub_one]
  simpa using hi

/-- The best of the first k sets. -/
def bestS (p : List Int → Bool) (n : Nat) : Nat → List Int
  | 0 => bitsL (2 ^ n - 1)
  | k + 1 => if (shorter (bitsL k) (bestS p n k) && p (bitsL k)) = true then bitsL k else bestS p n k
theorem bestS_is {p : List Int → Bool} {n : Nat} (hp : p (upto n) = true) : ∀ k, k ≤ 2 ^ n → p (bestS p n k) = true ∧ Inc n 0 (bestS p n k) ∧ ∀ j, j < k → p (bitsL j) = true → shorter (bitsL j) (bestS p n k) = false := by
  intro k
  induction k with
  | zero =>
    intro _
    refine ⟨by rw [bestS, bits_full]; exact hp, ?_, fun j hj => by omega⟩
    rw [bestS, bits_full]
    exact inc_upto n
  | succ k ih =>
    intro hk
    obtain ⟨h1, h2, h3⟩ := ih (by omega)
    unfold bestS
    split
    · rename_i hc
      simp only [Bool.and_eq_true] at hc
      refine ⟨hc.2, by rw [bitsL_eq (p := n) (by omega)]; exact inc_bitsTo _ _, fun j hj hcan => ?_⟩
      by_cases e : j = k
      · subst e; exact shorter_irrefl _
      · have h4 := h3 j (by omega) hcan
        cases hs : shorter (bitsL j) (bitsL k)
        · rfl
        · have h5 := shorter_trans hs hc.1
          rw [h4] at h5; cases h5
    · rename_i hc
      refine ⟨h1, h2, fun j hj hcan => ?_⟩
      by_cases e : j = k
      · subst e
        cases hs : shorter (bitsL j) (bestS p n j)
        · rfl
        · exact absurd (by rw [hs, hcan]; rfl) hc
      · exact h3 j (by omega) hcan
theorem bestS_all {p : List Int → Bool} {n : Nat} (hp : p (upto n) = true) : bestS p n (2 ^ n) = (shortL n p).getD [] := by
  obtain ⟨h1, h2, h3⟩ := bestS_is hp (2 ^ n) (Nat.le_refl _)
  rw [shortL_is h1 h2 fun x hx hpx => ?_]
  · rfl
  · have := h3 (ofBits x) (ofBits_lt hx)
    rw [bits_ofBits hx] at this
    exact this hpx

theorem leave_best {l : LedgerD} (h : possibleL l (upto l.notes.length) = true) : bestS (possibleL l) l.notes.length (2 ^ l.notes.length) = leaveW l := bestS_all h
theorem settle_all (f : FieldD) : settlesAll f (upto f.rows.toNat) = true := settlesAll_iff.2 fun _ _ => settles_full
theorem settle_best (f : FieldD) : bestS (settlesAll f) f.rows.toNat (2 ^ f.rows.toNat) = settleF f := bestS_all (settle_all f)

/-- The smallest set of notes: without it there is a truth, and without no shorter list. -/
theorem leave_is {l : LedgerD} (h : possibleL l (upto l.notes.length) = true) : possibleL l (leaveW l) = true ∧ Inc l.notes.length 0 (leaveW l) ∧ ∀ x, Inc l.notes.length 0 x → possibleL l x = true → shorter x (leaveW l) = false :=
  shortL_some (leaveW_some h)

/-! ### The truths compared two by two -/

def alikeB (m : Nat) (a b : List Int) (k : Nat) : Bool := (List.range k).all fun i => !m.testBit i || a.getD i 0 == b.getD i 0
theorem alikeB_succ (m : Nat) (a b : List Int) (k : Nat) : alikeB m a b (k + 1) = (alikeB m a b k && (!m.testBit k || a.getD k 0 == b.getD k 0)) := by
  unfold alikeB
  rw [List.range_succ, List.all_append]
  simp
theorem alikeB_same {n m : Nat} (hm : m < 2 ^ n) (a b : List Int) : alikeB m a b n = sameOn (bitsL m) a b := by
  rw [bitsL_eq hm]
  unfold alikeB sameOn bitsTo
  rw [List.all_map, List.all_filter]
  congr 1
theorem alikeB_bad {m : Nat} {a b : List Int} {k n : Nat} (hk : k ≤ n) (h : alikeB m a b k = false) : alikeB m a b n = false := by
  unfold alikeB at h ⊢
  rw [List.all_eq_false] at h ⊢
  obtain ⟨i, hi, h⟩ := h
  exact ⟨i, List.mem_range.2 (by have := List.mem_range.1 hi; omega), h⟩
/-- Two truths agree in the rows, but not in what a weeder did. -/
def badP (f : FieldD) (w : Int) (m : Nat) (a b : List Int) : Bool := doneF f a w != doneF f b w && alikeB m a b f.rows.toNat
theorem settles_bad {f : FieldD} {w : Int} {m : Nat} (hm : m < 2 ^ f.rows.toNat) {a b : List Int} (ha : a ∈ truthsF f []) (hb : b ∈ truthsF f []) (h : badP f w m a b = true) : settlesF f w (bitsL m) = false := by
  cases hs : settlesF f w (bitsL m)
  · rfl
  · unfold badP at h
    rw [Bool.and_eq_true, alikeB_same hm] at h
    have := settlesF_iff.1 hs a ha b hb h.2
    rw [this] at h
    simp at h
theorem settles_good {f : FieldD} (hS : SoundF f) {w : Int} {m : Nat} (hm : m < 2 ^ f.rows.toNat) (h : ∀ i k, k < i → i < (rtruths f).length → badP f w m ((rtruths f).getD i []) ((rtruths f).getD k []) = false) : settlesF f w (bitsL m) = true := by
  rw [settlesF_iff]
  intro a ha b hb hab
  obtain ⟨i, hi, rfl⟩ := List.getElem_of_mem ((mem_rtruths hS).2 ha)
  obtain ⟨k, hk, rfl⟩ := List.getElem_of_mem ((mem_rtruths hS).2 hb)
  have sym : sameOn (bitsL m) (rtruths f)[k] (rtruths f)[i] = true := by
    rw [sameOn_iff] at hab ⊢
    exact fun r hr => (hab r hr).symm
  have get : ∀ {j : Nat} (hj : j < (rtruths f).length), (rtruths f).getD j [] = (rtruths f)[j] := fun hj => by simp [List.getD, hj]
  rcases Nat.lt_trichotomy k i with hki | hki | hki
  · have := h i k hki hi
    unfold badP at this
    rw [get hi, get hk, alikeB_same hm, hab, Bool.and_true] at this
    simpa using this
  · subst hki; rfl
  · have := h k i hki hk
    unfold badP at this
    rw [get hi, get hk, alikeB_same hm, sym, Bool.and_true] at this
    simpa using (by simpa using this : doneF f (rtruths f)[k] w = doneF f (rtruths f)[i] w).symm
end Go.Proofs.YtdjgikcnmokjkaaGreat
