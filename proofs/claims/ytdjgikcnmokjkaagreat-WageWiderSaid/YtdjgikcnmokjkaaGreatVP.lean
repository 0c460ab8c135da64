/-
  Plain, for WageWider: a ledger with a wider box, or with one wider note.
-/
import Derived.Test.YtdjgikcnmokjkaaGreatVO
namespace Go.Proofs.YtdjgikcnmokjkaaGreat
open Go.RowKit Go.RG Go.SL Go.Shelf Cou Go.TB
set_option maxHeartbeats 400000
set_option maxRecDepth 10000

def wideR (r : Rng) (lo hi : Int) : Rng := (max 0 (r.1 - lo), min 2000 (r.2 + hi))
def wideB (l : LedgerD) (lo hi : Int) : LedgerD := ⟨l.field, l.rate, wideR l.box lo hi, l.notes⟩
def wideN (l : LedgerD) (J : Nat) (lo hi : Int) : LedgerD := ⟨l.field, l.rate, l.box, l.notes.set J ((l.notes.getD J (0, 0, 0)).1, wideR (l.notes.getD J (0, 0, 0)).2 lo hi)⟩

theorem wideR_in {r : Rng} (h : 0 ≤ r.1 ∧ r.1 ≤ r.2 ∧ r.2 ≤ 2000) {lo hi : Int} (h0 : 0 ≤ lo) (h1 : 0 ≤ hi) : (wideR r lo hi).1 ≤ r.1 ∧ r.2 ≤ (wideR r lo hi).2 ∧ 0 ≤ (wideR r lo hi).1 ∧ (wideR r lo hi).2 ≤ 2000 := by
  unfold wideR
  simp only
  omega
theorem wideB_wid {l : LedgerD} (hS : SoundL l) {lo hi : Int} (h0 : 0 ≤ lo) (h1 : 0 ≤ hi) (o : List Int) : WidG l (wideB l lo hi) o o where
  field := rfl
  rate := rfl
  box := by have := wideR_in hS.box h0 h1; exact ⟨this.1, this.2.1⟩
  notes := fun n hn => ⟨n, hn, rfl, Int.le_refl _, Int.le_refl _⟩
theorem note_box {l : LedgerD} (hS : SoundL l) {J : Nat} (hJ : J < l.notes.length) : 0 ≤ (l.notes.getD J (0, 0, 0)).2.1 ∧ (l.notes.getD J (0, 0, 0)).2.1 ≤ (l.notes.getD J (0, 0, 0)).2.2 ∧ (l.notes.getD J (0, 0, 0)).2.2 ≤ 2000 := by
  rw [show l.notes.getD J (0, 0, 0) = l.notes[J] from by simp [List.getD, hJ]]
  exact (hS.notes _ (List.getElem_mem hJ)).2
theorem wideN_wid {l : LedgerD} (hS : SoundL l) {J : Nat} (hJ : J < l.notes.length) {lo hi : Int} (h0 : 0 ≤ lo) (h1 : 0 ≤ hi) (o : List Int) : WidG l (wideN l J lo hi) o o where
  field := rfl
  rate := rfl
  box := ⟨Int.le_refl _, Int.le_refl _⟩
  notes := fun n hn => by
    obtain ⟨i, h2, h3, rfl⟩ := mem_leftL.1 hn
    have hi' : i < l.notes.length := by simpa [wideN] using h2
    refine ⟨_, mem_leftL.2 ⟨i, hi', h3, rfl⟩, ?_⟩
    by_cases e : J = i
    · subst e
      have : (wideN l J lo hi).notes.getD J (0, 0, 0) = ((l.notes.getD J (0, 0, 0)).1, wideR (l.notes.getD J (0, 0, 0)).2 lo hi) := by simp [wideN, List.getD, hJ]
      rw [this]
      have := wideR_in (note_box hS hJ) h0 h1
      exact ⟨rfl, this.1, this.2.1⟩
    · have : (wideN l J lo hi).notes.getD i (0, 0, 0) = l.notes.getD i (0, 0, 0) := by simp [wideN, List.getD, e]
      rw [this]
      exact ⟨rfl, Int.le_refl _, Int.le_refl _⟩
theorem fault_wid {l x : LedgerD} (h : faultW l = 0) (hw : ∀ o, WidG l x o o) (hlen : x.notes.length = l.notes.length) (hargs : argsB x = true) : faultW x = 0 := by
  have hp := (hw (upto l.notes.length)).possible (faultW_sound h).2
  unfold faultW at h ⊢
  split at h
  · omega
  split at h
  · omega
  rename_i h1 h2
  rw [hlen, if_neg h1, (hw []).field, if_neg h2, if_neg (by rw [hargs]; simp), if_neg (by rw [hp]; simp)]
theorem args_parts {l : LedgerD} (hS : SoundL l) : inB l.rate 1 50 = true ∧ amountsB l.box = true ∧ ∀ x ∈ l.notes, noteB l x = true := by
  have hr := hS.rate
  have hb := hS.box
  refine ⟨by unfold inB; simp; omega, by unfold amountsB inB; simp; omega, fun x hx => ?_⟩
  have := hS.notes x hx
  unfold noteB amountsB inB
  simp
  omega
theorem wideB_fault {l : LedgerD} (h : faultW l = 0) {lo hi : Int} (h0 : 0 ≤ lo) (h1 : 0 ≤ hi) : faultW (wideB l lo hi) = 0 := by
  have hS := (faultW_sound h).1
  refine fault_wid h (wideB_wid hS h0 h1) rfl ?_
  obtain ⟨g1, _, g3⟩ := args_parts hS
  have := wideR_in hS.box h0 h1
  have hb := hS.box
  have ha : amountsB (wideR l.box lo hi) = true := by unfold amountsB inB; simp; omega
  show (inB l.rate 1 50 && (amountsB (wideR l.box lo hi) && l.notes.all (noteB (wideB l lo hi)))) = true
  rw [g1, ha, Bool.true_and, Bool.true_and, List.all_eq_true]
  intro x hx
  exact g3 x hx
theorem wideN_fault {l : LedgerD} (h : faultW l = 0) {J : Nat} (hJ : J < l.notes.length) {lo hi : Int} (h0 : 0 ≤ lo) (h1 : 0 ≤ hi) : faultW (wideN l J lo hi) = 0 := by
  have hS := (faultW_sound h).1
  refine fault_wid h (wideN_wid hS hJ h0 h1) (by simp [wideN]) ?_
  obtain ⟨g1, g2, g3⟩ := args_parts hS
  show (inB l.rate 1 50 && (amountsB l.box && (l.notes.set J ((l.notes.getD J (0, 0, 0)).1, wideR (l.notes.getD J (0, 0, 0)).2 lo hi)).all (noteB (wideN l J lo hi)))) = true
  rw [g1, g2, Bool.true_and, Bool.true_and, List.all_eq_true]
  intro x hx
  rcases List.mem_or_eq_of_mem_set hx with hx | rfl
  · exact g3 x hx
  · have hm := hS.notes (l.notes.getD J (0, 0, 0)) (by rw [show l.notes.getD J (0, 0, 0) = l.notes[J] from by simp [List.getD, hJ]]; exact List.getElem_mem _)
    have hw := wideR_in (note_box hS hJ) h0 h1
    have hb := note_box hS hJ
    show (inB (l.notes.getD J (0, 0, 0)).1 0 (l.field.weeders - 1) && amountsB (wideR (l.notes.getD J (0, 0, 0)).2 lo hi)) = true
    generalize l.notes.getD J (0, 0, 0) = y at *
    unfold amountsB inB
    simp
    omega
end Go.Proofs.YtdjgikcnmokjkaaGreat
