/-
  Plain: a ledger with some of its notes, or with others; the notes before the first wrong one.
-/
import Derived.Test.YtdjgikcnmokjkaaGreatZC
namespace Go.Proofs.YtdjgikcnmokjkaaGreat
open Go.RowKit Go.RG Go.SL Go.Shelf Cou Go.TB
set_option maxHeartbeats 400000
set_option maxRecDepth 10000

def someG (l : LedgerD) (m : Nat) : LedgerD := ⟨l.field, l.rate, l.box, someL m l.notes⟩

theorem alone_left {l l' : LedgerD} {o o' : List Int} (hf : l.field = l'.field) (hl : leftL l o = leftL l' o') (d : List Int) : alone l o d = alone l' o' d := by
  unfold alone
  rw [hf]
  refine List.map_congr_left fun i _ => ?_
  rw [← kn_known, ← kn_known, hl]
theorem canPay_left {l l' : LedgerD} {o o' : List Int} (hf : l.field = l'.field) (hb : l.box = l'.box) (hl : leftL l o = leftL l' o') (d : List Int) : canPay l o d = canPay l' o' d := by
  unfold canPay lowL highL
  rw [alone_left hf hl, hb]
theorem paidL_left {l l' : LedgerD} {o o' : List Int} (hf : l.field = l'.field) (hb : l.box = l'.box) (hl : leftL l o = leftL l' o') (d : List Int) : paidL l o d = paidL l' o' d := by
  unfold paidL lowL highL
  rw [alone_left hf hl, hb]
theorem duesT_left {l l' : LedgerD} (hf : l.field = l'.field) (hr : l.rate = l'.rate) : duesT l = duesT l' := by
  unfold duesT duesTo
  rw [hf, hr]
theorem possible_left {l l' : LedgerD} {o o' : List Int} (hf : l.field = l'.field) (hr : l.rate = l'.rate) (hb : l.box = l'.box) (hl : leftL l o = leftL l' o') : possibleL l o = possibleL l' o' := by
  unfold possibleL
  rw [duesT_left hf hr]
  congr 1
  funext d
  exact canPay_left hf hb hl d

/-- A ledger with other notes, that are right by themselves, is valid. -/
theorem fault_notes {l l' : LedgerD} (h : faultW l = 0) (hf : l.field = l'.field) (hr : l.rate = l'.rate) (hb : l.box = l'.box) (hn : l'.notes.length ≤ 5) (ha : ∀ x ∈ l'.notes, noteB l x = true) : faultW l' = 0 := by
  unfold faultW at h ⊢
  split at h
  · omega
  split at h
  · omega
  rename_i h2
  split at h
  · omega
  rename_i h3
  split at h
  · omega
  rename_i h4
  have g : argsB l' = true := by
    unfold argsB at h3 ⊢
    rw [← hr, ← hb]
    simp only [Bool.and_eq_false_iff, not_or, Bool.not_eq_false] at h3
    rw [h3.1, h3.2.1, Bool.true_and, Bool.true_and, List.all_eq_true]
    intro x hx
    have := ha x hx
    unfold noteB at this ⊢
    rw [← hf]
    exact this
  have p : possibleL l' (upto l'.notes.length) = true := by
    rw [possible_left (l := l') (l' := l) (o' := upto l.notes.length) hf.symm hr.symm hb.symm (by rw [left_all, left_all])]
    simpa using h4
  rw [← hf, if_neg (by omega), if_neg h2, if_neg (by rw [g]; simp), if_neg (by rw [p]; simp)]
theorem notes_right {l : LedgerD} (h : faultW l = 0) : ∀ x ∈ l.notes, noteB l x = true := by
  unfold faultW at h
  split at h
  · omega
  split at h
  · omega
  split at h
  · omega
  rename_i h3
  unfold argsB at h3
  simp only [Bool.and_eq_false_iff, not_or, Bool.not_eq_false] at h3
  exact List.all_eq_true.1 h3.2.2

theorem someL_mem {m : Nat} {l : List Rdg} {x : Rdg} (h : x ∈ someL m l) : x ∈ l := by
  unfold someL someTo at h
  obtain ⟨i, hi, rfl⟩ := List.mem_map.1 h
  have hi := List.mem_range.1 (List.mem_filter.1 hi).1
  rw [show l.getD i (0, 0, 0) = l[i] from by simp [List.getD, hi]]
  exact List.getElem_mem _
theorem fault_some {l : LedgerD} (h : faultW l = 0) (m : Nat) : faultW (someG l m) = 0 := by
  refine fault_notes h rfl rfl rfl ?_ fun x hx => notes_right h x (someL_mem hx)
  have := someTo_len m l.notes.length l.notes
  have h5 := (faultW_sound h).1.many
  show (someL m l.notes).length ≤ 5
  unfold someL
  omega

/-- What is left of some notes is what is left of all, without the others. -/
theorem left_nil (l : LedgerD) : leftL l [] = l.notes := by
  unfold leftL leftTo
  rw [List.filter_eq_self.2 (by intro i _; rfl)]
  refine List.ext_getElem (by simp) fun i h1 h2 => ?_
  simp [List.getD, h2]
theorem left_some (l : LedgerD) (m : Nat) (out : List Int) (ho : ∀ i : Nat, i < l.notes.length → out.contains (i : Int) = !m.testBit i) : leftL (someG l m) [] = leftL l out := by
  rw [left_nil]
  show someL m l.notes = _
  unfold leftL leftTo someL someTo
  congr 1
  refine List.filter_congr fun i hi => ?_
  rw [ho i (List.mem_range.1 hi), Bool.not_not]
theorem asked_some {l : LedgerD} (h : faultW l = 0) {m : Nat} {out : List Int} (ho : ∀ i : Nat, i < l.notes.length → out.contains (i : Int) = !m.testBit i) : askedErr (someG l m) true = if possibleL l out = true then 0 else 11 := by
  unfold askedErr
  rw [fault_some h, possible_left (l := someG l m) (l' := l) (o := []) (o' := out) rfl rfl rfl (left_some l m out ho)]
  simp only [ne_eq, not_true_eq_false, if_false, Bool.true_eq_false]
  cases possibleL l out <;> simp

theorem later_has {n k i : Nat} (hi : i < n) : (laterL n k).contains (i : Int) = decide (k ≤ i) := by
  unfold laterL upto
  rw [Bool.eq_iff_iff, List.contains_iff_mem, decide_eq_true_eq]
  constructor
  · intro h
    obtain ⟨j, hj, he⟩ := List.getElem_of_mem h
    simp at he
    omega
  · intro h
    rw [List.mem_iff_getElem]
    exact ⟨i - k, by simp; omega, by simp; omega⟩
theorem asked_before {l : LedgerD} (h : faultW l = 0) (k : Nat) : askedErr (someG l (2 ^ k - 1)) true = if possibleL l (laterL l.notes.length k) = true then 0 else 11 := by
  refine asked_some h fun i hi => ?_
  rw [later_has hi, Nat.testBit_two_pow_sub_one, Bool.eq_iff_iff]
  simp

theorem readyL_facts {l : LedgerD} (h : readyL l = true) : faultW l = 0 ∧ SoundL l ∧ l.field.tallies.length ≤ 5 ∧ l.notes.length ≤ 5 ∧ (l.field.weeders + 1) ^ l.field.rows.toNat ≤ 130 ∧ l.rate * l.field.rows ≤ 42 := by
  unfold readyL at h
  rw [Bool.and_eq_true, decide_eq_true_eq] at h
  obtain ⟨h1, h2⟩ := h
  have hS := (faultW_sound h2).1
  have hF := soundF_of hS.field
  refine ⟨h2, hS, hF.tals, hS.many, ?_⟩
  unfold thinL at h1
  simp only [Bool.and_eq_true, Bool.or_eq_true, decide_eq_true_eq] at h1
  obtain ⟨_, _, h3 | h3 | h3⟩ := h1
  · exact absurd hS.field h3
  · have hr := hS.rate
    have : inB l.rate 1 50 = true := by unfold inB; simp; omega
    rw [this] at h3; cases h3
  · exact h3

theorem first_plain {l : LedgerD} (h : faultW l = 0) :
    (firstW l = none ∧ askedErr l true = 0) ∨ ∃ k, firstW l = some k ∧ k < l.notes.length ∧ askedErr (someG l (2 ^ k - 1)) true = 0 ∧ askedErr (someG l (2 ^ (k + 1) - 1)) true = 11 := by
  have hpo := (faultW_sound h).2
  have hall : laterL l.notes.length 0 = upto l.notes.length := by simp [laterL]
  cases hw : firstW l with
  | none =>
    refine .inl ⟨rfl, ?_⟩
    unfold firstW at hw
    rw [List.find?_eq_none] at hw
    have hp : possibleL l [] = true := by
      have he : laterL l.notes.length l.notes.length = [] := by simp [laterL, upto]
      by_cases h0 : l.notes.length = 0
      · rw [h0] at hpo
        exact hpo
      · have := hw (l.notes.length - 1) (List.mem_range.2 (by omega))
        rw [show l.notes.length - 1 + 1 = l.notes.length from by omega, he] at this
        simpa using this
    unfold askedErr
    rw [h, hp]
    simp
  | some k =>
    refine .inr ⟨k, rfl, ?_⟩
    unfold firstW at hw
    rw [List.find?_eq_some_iff_getElem] at hw
    obtain ⟨h1, i, hi, he, hb⟩ := hw
    have hik : i = k := by simpa using he
    subst hik
    have hin : i < l.notes.length := by simpa using hi
    refine ⟨hin, ?_, ?_⟩
    · rw [asked_before h, if_pos]
      cases i with
      | zero => rw [hall]; exact hpo
      | succ j =>
        have := hb j (by omega)
        simpa using this
    · rw [asked_before h, if_neg]
      simpa using h1
end Go.Proofs.YtdjgikcnmokjkaaGreat
