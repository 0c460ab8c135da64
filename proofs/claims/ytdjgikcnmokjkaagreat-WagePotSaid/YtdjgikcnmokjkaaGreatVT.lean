/-
  Plain, for WageTruth and WagePot: what is so in one truth is within all bounds.
-/
import Derived.WalkKit
import Derived.WalkLawsBesides
import Derived.WalkSpells
import Derived.Outline
import Derived.Handy
import Derived.KernelRfl
import Derived.Lib.Hide
import Derived.Test.YtdjgikcnmokjkaaGreatVR
import Derived.Test.YtdjgikcnmokjkaaGreatVO
import Derived.Test.YtdjgikcnmokjkaaGreatZQ
namespace Go.Proofs.YtdjgikcnmokjkaaGreat
open Go.RowKit Go.RG Go.SL Go.Shelf Cou Go.TB
set_option maxHeartbeats 400000
set_option maxRecDepth 10000

/-- Rows and payments that all that a ledger says allows. -/
structure TruthW (x : LedgerD) (rows ps : List Int) : Prop where
  rowsT : rows ∈ truthsF x.field []
  len : ps.length = x.field.weeders.toNat
  pay : ∀ i, i < x.field.weeders.toNat → 0 ≤ ps.getD i 0 ∧ ps.getD i 0 ≤ (duesV x.rate rows).getD i 0
  box : x.box.1 ≤ sumI ps ∧ sumI ps ≤ x.box.2
  notes : ∀ n ∈ x.notes, n.2.1 ≤ ps.getD n.1.toNat 0 ∧ ps.getD n.1.toNat 0 ≤ n.2.2

theorem TruthW.prove {x : LedgerD} {rows ps : List Int} (h : TruthW x rows ps) (h0 : faultW x = 0) : proveLB x rows ps = true := by
  have hS := (faultW_sound h0).1
  obtain ⟨m1, m2⟩ := truthsF_mem h.rowsT
  unfold proveLB
  rw [h0, proveTruth_yes m1 hS.field, m2, h.len]
  have e1 : safeTo (duesV x.rate rows) ps x.field.weeders.toNat = true := by
    unfold safeTo
    rw [List.all_eq_true]
    intro i hi
    have := h.pay i (List.mem_range.1 hi)
    unfold inB
    simpa using this
  have e2 : inB (sumI ps) x.box.1 x.box.2 = true := by have := h.box; unfold inB; simpa using this
  have e3 : x.notes.all (noteOk ps) = true := by
    rw [List.all_eq_true]
    intro n hn
    have := h.notes n hn
    unfold noteOk inB
    simpa using this
  rw [e1, e2, e3]
  simp

/-- Each payment is one of those that are known. -/
theorem TruthW.known {x : LedgerD} {rows ps : List Int} (h : TruthW x rows ps) (out : List Int) {i : Nat} (hi : i < x.field.weeders.toNat) : (knownL x out i ((duesV x.rate rows).getD i 0)).1 ≤ ps.getD i 0 ∧ ps.getD i 0 ≤ (knownL x out i ((duesV x.rate rows).getD i 0)).2 := by
  have hp := h.pay i hi
  have : inB (ps.getD i 0) (knownL x out i ((duesV x.rate rows).getD i 0)).1 (knownL x out i ((duesV x.rate rows).getD i 0)).2 = true := by
    unfold knownL
    rw [foldl_both, Bool.and_eq_true, List.all_eq_true]
    refine ⟨by unfold inB; simpa using hp, fun k hk => ?_⟩
    obtain ⟨h1, h2⟩ := List.mem_filter.1 hk
    have h1 := List.mem_range.1 h1
    rw [Bool.and_eq_true, beq_iff_eq] at h2
    have hm : x.notes.getD k (0, (0, 0)) ∈ x.notes := by
      rw [show x.notes.getD k (0, (0, 0)) = x.notes[k] from by simp [List.getD, h1]]
      exact List.getElem_mem _
    have := h.notes _ hm
    rw [h2.2, Int.toNat_natCast] at this
    unfold inB
    simpa using this
  unfold inB at this
  simpa using this
theorem TruthW.can {x : LedgerD} {rows ps : List Int} (h : TruthW x rows ps) (out : List Int) : canPay x out (duesV x.rate rows) = true := by
  rw [canPay_iff (by have := h.box; omega)]
  refine ⟨ps, by rw [h.len, alone_len], fun i hi => ?_, h.box.1, h.box.2⟩
  rw [alone_len] at hi
  rw [alone_get x out _ hi]
  exact h.known out hi
theorem TruthW.dues {x : LedgerD} {rows ps : List Int} (h : TruthW x rows ps) : duesV x.rate rows ∈ duesT x := mem_duesT.2 ⟨rows, h.rowsT, rfl⟩
theorem TruthW.possible {x : LedgerD} {rows ps : List Int} (h : TruthW x rows ps) (out : List Int) : possibleL x out = true := by
  unfold possibleL
  rw [List.any_eq_true]
  exact ⟨_, h.dues, h.can out⟩
theorem TruthW.asked {x : LedgerD} {rows ps : List Int} (h : TruthW x rows ps) (h0 : faultW x = 0) : askedErr x true = 0 := by
  unfold askedErr
  rw [h0, h.possible []]
  simp
theorem TruthW.leave {x : LedgerD} {rows ps : List Int} (h : TruthW x rows ps) (h0 : faultW x = 0) : leaveW x = [] := (leave_nil h0).2 (h.possible [])
theorem TruthW.first {x : LedgerD} {rows ps : List Int} (h : TruthW x rows ps) : firstWv x = 0 ∧ firstWe x = 7 := by
  have : firstW x = none := by
    unfold firstW
    rw [List.find?_eq_none]
    intro i _
    rw [h.possible]
    simp
  unfold firstWv firstWe
  rw [this]
  exact ⟨rfl, rfl⟩

theorem sumI_le_at : ∀ {xs ys : List Int}, xs.length = ys.length → (∀ i, i < xs.length → xs.getD i 0 ≤ ys.getD i 0) → sumI xs ≤ sumI ys := by
  intro xs
  induction xs with
  | nil =>
    intro ys hl _
    obtain rfl := List.eq_nil_of_length_eq_zero hl.symm
    exact Int.le_refl _
  | cons a xs ih =>
    intro ys hl h
    cases ys with
    | nil => simp at hl
    | cons b ys =>
      have h1 := h 0 (by simp)
      have h2 := ih (ys := ys) (by simpa using hl) fun i hi => by
        have := h (i + 1) (by simpa using hi)
        simpa using this
      rw [sumI_cons, sumI_cons]
      simp at h1
      omega

/-- Each payment is within what can have been paid, with the box. -/
theorem TruthW.paid {x : LedgerD} {rows ps : List Int} (h : TruthW x rows ps) {i : Nat} (hi : i < x.field.weeders.toNat) : ((paidL x [] (duesV x.rate rows)).getD i (0, 0)).1 ≤ ps.getD i 0 ∧ ps.getD i 0 ≤ ((paidL x [] (duesV x.rate rows)).getD i (0, 0)).2 := by
  have hk := h.known [] hi
  have hb := h.box
  have hlen := alone_len x [] (duesV x.rate rows)
  have hpi : i < ps.length := by rw [h.len]; exact hi
  have hai : i < (alone x [] (duesV x.rate rows)).length := by rw [hlen]; exact hi
  have hag := alone_get x [] (duesV x.rate rows) hi
  have each : ∀ (f : Rng → Int) j, j < x.field.weeders.toNat → (((alone x [] (duesV x.rate rows)).map f).set i (f (0, 0) - f (0, 0))).getD j 0 = if i = j then 0 else f (knownL x [] j ((duesV x.rate rows).getD j 0)) := by
    intro f j hj
    have hg := alone_get x [] (duesV x.rate rows) hj
    have hjl : j < (alone x [] (duesV x.rate rows)).length := by rw [hlen]; exact hj
    rw [List.getD_eq_getElem?_getD, List.getElem?_eq_getElem hjl, Option.getD_some] at hg
    rw [List.getD_eq_getElem?_getD, List.getElem?_eq_getElem (by simpa using hjl), Option.getD_some, List.getElem_set]
    split
    · omega
    · rw [List.getElem_map, hg]
  have hps : ∀ j, j < x.field.weeders.toNat → (ps.set i 0).getD j 0 = if i = j then 0 else ps.getD j 0 := by
    intro j hj
    have hjl : j < ps.length := by rw [h.len]; exact hj
    rw [List.getD_eq_getElem?_getD, List.getElem?_eq_getElem (by simpa using hjl), Option.getD_some, List.getElem_set]
    split
    · rfl
    · simp [List.getD, hjl]
  have g1 : sumI (((alone x [] (duesV x.rate rows)).map (·.1)).set i 0) ≤ sumI (ps.set i 0) := by
    refine sumI_le_at (by simp [hlen, h.len]) fun j hj => ?_
    have hj' : j < x.field.weeders.toNat := by simpa [hlen] using hj
    have := each (·.1) j hj'
    simp only [Int.sub_self] at this
    rw [this, hps j hj']
    split
    · omega
    · exact (h.known [] hj').1
  have g2 : sumI (ps.set i 0) ≤ sumI (((alone x [] (duesV x.rate rows)).map (·.2)).set i 0) := by
    refine sumI_le_at (by simp [hlen, h.len]) fun j hj => ?_
    have hj' : j < x.field.weeders.toNat := by simpa [h.len] using hj
    have := each (·.2) j hj'
    simp only [Int.sub_self] at this
    rw [this, hps j hj']
    split
    · omega
    · exact (h.known [] hj').2
  rw [sumI_set (by simpa using hai), sumI_set hpi] at g1
  rw [sumI_set hpi, sumI_set (by simpa using hai)] at g2
  have k1 : ((alone x [] (duesV x.rate rows)).map (·.1)).getD i 0 = (knownL x [] i ((duesV x.rate rows).getD i 0)).1 := by
    rw [← hag]
    simp [List.getD, hai]
  have k2 : ((alone x [] (duesV x.rate rows)).map (·.2)).getD i 0 = (knownL x [] i ((duesV x.rate rows).getD i 0)).2 := by
    rw [← hag]
    simp [List.getD, hai]
  rw [k1] at g1
  rw [k2] at g2
  rw [paidL_get x [] _ hi]
  unfold bothR lowL highL
  simp only
  omega

/-- What is so of a weeder in a truth is within the bounds. -/
theorem TruthW.inside {x : LedgerD} {rows ps : List Int} (h : TruthW x rows ps) {i : Nat} (hi : i < x.field.weeders.toNat) :
    (((bndL partE x (duesT x)).getD i (0, 0)).1 ≤ (duesV x.rate rows).getD i 0 ∧ (duesV x.rate rows).getD i 0 ≤ ((bndL partE x (duesT x)).getD i (0, 0)).2) ∧
    (((bndL partP x (duesT x)).getD i (0, 0)).1 ≤ ps.getD i 0 ∧ ps.getD i 0 ≤ ((bndL partP x (duesT x)).getD i (0, 0)).2) ∧
    (((bndL partO x (duesT x)).getD i (0, 0)).1 ≤ (duesV x.rate rows).getD i 0 - ps.getD i 0 ∧ (duesV x.rate rows).getD i 0 - ps.getD i 0 ≤ ((bndL partO x (duesT x)).getD i (0, 0)).2) := by
  have hex : ∃ d ∈ duesT x, canPay x [] d = true := ⟨_, h.dues, h.can []⟩
  have hull := fun p => bnd_hull hex p hi
  have hp := h.paid hi
  have e1 : ((bndL partE x (duesT x)).getD i (0, 0)).1 ≤ (duesV x.rate rows).getD i 0 := (hull partE).low.2 _ ⟨_, h.dues, h.can [], rfl⟩
  have e2 : (duesV x.rate rows).getD i 0 ≤ ((bndL partE x (duesT x)).getD i (0, 0)).2 := (hull partE).high.2 _ ⟨_, h.dues, h.can [], rfl⟩
  have p1 : ((bndL partP x (duesT x)).getD i (0, 0)).1 ≤ ((paidL x [] (duesV x.rate rows)).getD i (0, 0)).1 := (hull partP).low.2 _ ⟨_, h.dues, h.can [], rfl⟩
  have p2 : ((paidL x [] (duesV x.rate rows)).getD i (0, 0)).2 ≤ ((bndL partP x (duesT x)).getD i (0, 0)).2 := (hull partP).high.2 _ ⟨_, h.dues, h.can [], rfl⟩
  have o1 : ((bndL partO x (duesT x)).getD i (0, 0)).1 ≤ (duesV x.rate rows).getD i 0 - ((paidL x [] (duesV x.rate rows)).getD i (0, 0)).2 := (hull partO).low.2 _ ⟨_, h.dues, h.can [], rfl⟩
  have o2 : (duesV x.rate rows).getD i 0 - ((paidL x [] (duesV x.rate rows)).getD i (0, 0)).1 ≤ ((bndL partO x (duesT x)).getD i (0, 0)).2 := (hull partO).high.2 _ ⟨_, h.dues, h.can [], rfl⟩
  exact ⟨⟨e1, e2⟩, ⟨by omega, by omega⟩, ⟨by omega, by omega⟩⟩

/-! ### All dues together -/
theorem sumI_add (f g : Nat → Int) (n : Nat) : sumI ((List.range n).map fun i => f i + g i) = sumI ((List.range n).map f) + sumI ((List.range n).map g) := by
  induction n with
  | zero => simp [sumI]
  | succ n ih =>
    rw [List.range_succ, List.map_append, List.map_append, List.map_append]
    simp only [List.map_cons, List.map_nil]
    rw [sumI_snoc, sumI_snoc, sumI_snoc, ih]
    omega
theorem sumI_one (x : Int) (n : Nat) : sumI ((List.range n).map fun (i : Nat) => if x = (i : Int) then (1 : Int) else 0) = if 0 ≤ x ∧ x < n then 1 else 0 := by
  induction n with
  | zero => simp [sumI]
  | succ n ih =>
    rw [List.range_succ, List.map_append]
    simp only [List.map_cons, List.map_nil]
    rw [sumI_snoc, ih]
    by_cases h1 : x = (n : Int)
    · rw [if_pos h1, if_neg (by omega), if_pos (by omega)]
      rfl
    · rw [if_neg h1]
      by_cases h2 : 0 ≤ x ∧ x < n
      · rw [if_pos h2, if_pos (by omega)]
        rfl
      · rw [if_neg h2, if_neg (by omega)]
        rfl
theorem count_all (n : Nat) : ∀ t : List Int, (∀ x ∈ t, -1 ≤ x ∧ x < n) → sumI ((List.range n).map fun (i : Nat) => (t.count (i : Int) : Int)) + (t.count (-1) : Int) = t.length := by
  intro t
  induction t with
  | nil =>
    intro _
    have : ∀ n : Nat, sumI ((List.range n).map fun (i : Nat) => (([] : List Int).count (i : Int) : Int)) = 0 := by
      intro n
      induction n with
      | zero => rfl
      | succ n ih =>
        rw [List.range_succ, List.map_append]
        simp only [List.map_cons, List.map_nil]
        rw [sumI_snoc, ih]
        rfl
    rw [this n]
    rfl
  | cons x t ih =>
    intro h
    have h1 := ih fun y hy => h y (List.mem_cons_of_mem _ hy)
    have h2 := h x List.mem_cons_self
    have e : (fun (i : Nat) => ((x :: t).count (i : Int) : Int)) = fun (i : Nat) => (t.count (i : Int) : Int) + if x = (i : Int) then (1 : Int) else 0 := by
      funext i
      rw [List.count_cons]
      by_cases hx : x = (i : Int)
      · simp [hx]
      · simp [hx]
    rw [e, sumI_add, sumI_one, List.count_cons]
    by_cases hx : x = -1
    · subst hx
      simp
      omega
    · rw [if_pos (by omega)]
      simp [hx]
      omega

theorem did_count (t : List Int) (who : Int) : didT t who 0 ((t.length : Int) - 1) = (t.count who : Int) := by
  unfold didT
  rw [show ((t.length : Int) - 1 + 1 - 0).toNat = t.length from by omega]
  exact didL_count t who
/-- All dues together are the rate times the rows that were not left. -/
theorem due_sum {x : LedgerD} (hS : SoundL x) {t : List Int} (ht : t ∈ truthsF x.field []) : sumI (dueV x t) = x.rate * (x.field.rows - didT t (-1) 0 (x.field.rows - 1)) := by
  have hF := soundF_of hS.field
  have hr := hF.rows0
  have hw := hF.weed0
  have hl := truthsF_len ht
  have hin := (mem_allF.1 (truthsF_mem ht).1).2
  have hc := count_all x.field.weeders.toNat t fun y hy => by
    obtain ⟨j, hj, rfl⟩ := List.getElem_of_mem hy
    have := hin j (by omega)
    rw [show t.getD j 0 = t[j] from by simp [List.getD, hj]] at this
    omega
  rw [← done_due hS ht, sumI_scale]
  have e : doneZ x.field.weeders.toNat t = (List.range x.field.weeders.toNat).map fun (i : Nat) => (t.count (i : Int) : Int) := by
    unfold doneZ
    exact List.map_congr_left fun i _ => did_count t i
  have e2 : x.field.rows - 1 = (t.length : Int) - 1 := by omega
  rw [e, e2, did_count, Int.mul_comm]
  congr 1
  omega
/-- A pot is shared whole. -/
theorem share_sum {x : LedgerD} (hS : SoundL x) {t : List Int} (hp : 0 < sumI (doneZ x.field.weeders.toNat t)) (pot : Int) : sumI (rshareL pot (doneZ x.field.weeders.toNat t)) = pot := by
  have hw := (soundF_of hS.field).weed1
  rw [← share_eq hp (by rw [doneZ_len]; omega)]
  exact (share_parts hp (by rw [doneZ_len]; omega)).2
/-- The shares of a truth are within the bounds. -/
theorem TruthW.share {x : LedgerD} {rows ps : List Int} (h : TruthW x rows ps) (h0 : faultW x = 0) {pot : Int} (hp : 0 ≤ pot ∧ pot ≤ 2000) (hno : noneS x (duesT x) = false) {i : Nat} (hi : i < x.field.weeders.toNat) :
    ((shrL x pot (duesT x)).getD i (0, 0)).1 ≤ (rshareL pot (doneZ x.field.weeders.toNat rows)).getD i 0 ∧ (rshareL pot (doneZ x.field.weeders.toNat rows)).getD i 0 ≤ ((shrL x pot (duesT x)).getD i (0, 0)).2 := by
  have ha := h.asked h0
  have hS := (faultW_sound h0).1
  have hw := (soundF_of hS.field).weed1
  have hr := (soundF_of hS.field).rows1
  rw [← (shares_plain ha hp hno).2 i hi]
  have hm : rows ∈ rowsL x := (mem_rowsL hS).2 ⟨h.rowsT, h.can []⟩
  have hpos : ∀ t ∈ rowsL x, 0 < sumI (doneZ x.field.weeders.toNat t) := fun t ht => by
    have h1 := (done_sum hS ((mem_rowsL hS).1 ht).1).1
    have h2 : sumI (doneZ x.field.weeders.toNat t) ≠ 0 := fun e => by
      rw [none_plain hS, List.any_eq_false] at hno
      have := hno t ht
      simp [e] at this
    omega
  have hull := widL_hull (xs := (rowsL x).map fun t => (rshareL pot (doneZ x.field.weeders.toNat t)).getD i 0) (fun e => by
    rw [List.map_eq_nil_iff] at e
    rw [e] at hm
    cases hm) (fun z hz => by
    obtain ⟨t, ht, rfl⟩ := List.mem_map.1 hz
    have hq := hpos t ht
    have hl := row_len hS ((mem_rowsL hS).1 ht).1
    rw [← share_eq hq (by rw [doneZ_len]; omega)]
    have := share_in (of := pot) hp hq (fun z hz => by have := doneZ_bd x.field.weeders.toNat t z hz; omega) (by rw [doneZ_len]; omega) (i := i) (by rw [doneZ_len]; exact hi)
    omega)
  have h1 := hull.low.2 _ ⟨_, List.mem_map.2 ⟨rows, hm, rfl⟩, rfl⟩
  have h2 := hull.high.2 _ ⟨_, List.mem_map.2 ⟨rows, hm, rfl⟩, rfl⟩
  exact ⟨h1, h2⟩
/-- If in some truth nobody did anything, all rows can have been left. -/
theorem none_left {x : LedgerD} (hS : SoundL x) (hno : noneS x (duesT x) = true) : x.field.left.2 = x.field.rows := by
  have hF := soundF_of hS.field
  have hr := hS.rate
  rw [none_plain hS, List.any_eq_true] at hno
  obtain ⟨t, ht, h⟩ := hno
  have ht := ((mem_rowsL hS).1 ht).1
  have h1 := due_sum hS ht
  rw [← done_due hS ht, sumI_scale, beq_iff_eq.1 h] at h1
  have h2 : x.field.rows - didT t (-1) 0 (x.field.rows - 1) = 0 := by
    rcases Int.mul_eq_zero.1 (show x.rate * (x.field.rows - didT t (-1) 0 (x.field.rows - 1)) = 0 by omega) with h | h
    · omega
    · exact h
  have h3 := (truthsF_mem ht).2
  rw [rightF_rok, Bool.and_eq_true] at h3
  have h4 := h3.2
  unfold inB doneF at h4
  have h5 := hF.left
  simp only [Bool.and_eq_true, decide_eq_true_eq] at h4
  omega
end Go.Proofs.YtdjgikcnmokjkaaGreat
