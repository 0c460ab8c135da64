/-
  Plain, for WageShares: shares by dues are shares by rows; the bounds of all shares.
-/
import Derived.Test.YtdjgikcnmokjkaaGreatVM
import Derived.Test.YtdjgikcnmokjkaaGreatVJ
namespace Go.Proofs.YtdjgikcnmokjkaaGreat
open Go.RowKit Go.RG Go.SL Go.Shelf Cou Go.TB
set_option maxHeartbeats 400000
set_option maxRecDepth 10000

theorem sumI_scale (r : Int) : ∀ l : List Int, sumI (l.map (· * r)) = sumI l * r
  | [] => by simp [sumI]
  | x :: l => by rw [List.map_cons, sumI_cons, sumI_cons, sumI_scale r l, Int.add_mul]
theorem getD_scale (r : Int) (l : List Int) (i : Nat) : (l.map (· * r)).getD i 0 = l.getD i 0 * r := by
  simp only [List.getD, List.getElem?_map]
  cases l[i]? <;> simp
theorem quo_scale {of r : Int} (hr : 0 < r) (ns : List Int) (i : Nat) : quoS of (ns.map (· * r)) i = quoS of ns i := by
  unfold quoS
  rw [getD_scale, sumI_scale, ← Int.mul_assoc, Int.mul_ediv_mul_of_pos_left _ _ hr]
theorem rem_scale {of r : Int} (hr : 0 < r) (ns : List Int) (i : Nat) : remS of (ns.map (· * r)) i = r * remS of ns i := by
  unfold remS
  rw [getD_scale, sumI_scale, ← Int.mul_assoc, Int.mul_comm _ r, Int.mul_comm _ r, Int.mul_emod_mul_of_pos _ _ hr]
theorem shareL_scale {of r : Int} (hr : 0 < r) (ns : List Int) : shareL of (ns.map (· * r)) = shareL of ns := by
  have h1 : quosL of (ns.map (· * r)) = quosL of ns := by
    unfold quosL
    rw [List.length_map]
    exact List.map_congr_left fun i _ => quo_scale hr ns i
  have h2 : befS of (ns.map (· * r)) = befS of ns := by
    funext x y
    unfold befS
    rw [rem_scale hr, rem_scale hr, decide_eq_decide]
    constructor
    · intro h
      exact Int.lt_of_mul_lt_mul_left h (Int.le_of_lt hr)
    · intro h
      exact Int.mul_lt_mul_of_pos_left h hr
  unfold shareL orderS leftS
  rw [h1, h2, List.length_map]

theorem done_due {l : LedgerD} (hS : SoundL l) {t : List Int} (ht : t ∈ truthsF l.field []) : (doneZ l.field.weeders.toNat t).map (· * l.rate) = dueV l t := duesZ_eq (soundF_of hS.field) (truthsF_len ht)
theorem done_sum {l : LedgerD} (hS : SoundL l) {t : List Int} (ht : t ∈ truthsF l.field []) : 0 ≤ sumI (doneZ l.field.weeders.toNat t) ∧ (sumI (doneZ l.field.weeders.toNat t) = 0 ↔ duesV l.rate t = [0, 0, 0]) := by
  have hF := soundF_of hS.field
  have hd := mem_duesT.2 ⟨t, ht, rfl⟩
  have hr := hS.rate
  have hw := hF.weed1
  have h := sumI_take3 (duesT_three l _ hd) (fun i hi => (duesT_bd hS hd i hi).1) (show l.field.weeders.toNat ≤ 3 by omega) (dues_over hS hd)
  have e : sumI ((duesV l.rate t).take l.field.weeders.toNat) = sumI (doneZ l.field.weeders.toNat t) * l.rate := by
    rw [← sumI_scale, done_due hS ht]
    rfl
  have hnn : ∀ xs : List Int, (∀ x ∈ xs, 0 ≤ x) → 0 ≤ sumI xs := by
    intro xs
    induction xs with
    | nil => intro _; simp [sumI]
    | cons a xs ih => intro h; have := ih fun x hx => h x (by simp [hx]); have := h a (by simp); rw [sumI_cons]; omega
  have h0 := hnn _ fun x hx => (doneZ_bd l.field.weeders.toNat t x hx).1
  refine ⟨h0, ?_⟩
  rw [← h.2, e]
  constructor
  · intro hz; rw [hz]; simp
  · intro hz
    rcases Int.mul_eq_zero.1 hz with h | h
    · exact h
    · omega
theorem none_plain {l : LedgerD} (hS : SoundL l) : noneS l (duesT l) = (rowsL l).any fun t => sumI (doneZ l.field.weeders.toNat t) == 0 := by
  unfold noneS
  rw [Bool.eq_iff_iff, List.any_eq_true, List.any_eq_true]
  constructor
  · rintro ⟨d, hd, h⟩
    obtain ⟨t, ht, rfl⟩ := mem_duesT.1 hd
    rw [Bool.and_eq_true] at h
    refine ⟨t, (mem_rowsL hS).2 ⟨ht, h.1⟩, ?_⟩
    rw [beq_iff_eq, (done_sum hS ht).2]
    simpa using h.2
  · rintro ⟨t, ht, h⟩
    obtain ⟨h1, h2⟩ := (mem_rowsL hS).1 ht
    refine ⟨_, mem_duesT.2 ⟨t, h1, rfl⟩, ?_⟩
    rw [Bool.and_eq_true]
    refine ⟨h2, ?_⟩
    rw [beq_iff_eq] at h
    rw [(done_sum hS h1).2.1 h]
    rfl
theorem share_row {l : LedgerD} (hS : SoundL l) {t : List Int} (ht : t ∈ truthsF l.field []) (hp : 0 < sumI (doneZ l.field.weeders.toNat t)) (pot : Int) : rshareL pot (doneZ l.field.weeders.toNat t) = shareL pot (dueV l t) := by
  have hw := (soundF_of hS.field).weed1
  have hr := hS.rate
  rw [← share_eq hp (by rw [doneZ_len]; omega), ← done_due hS ht, shareL_scale (by omega)]
theorem share_in {of : Int} {ns : List Int} (h0 : 0 ≤ of ∧ of ≤ 2000) (hs : 0 < sumI ns) (hn : ∀ z ∈ ns, 0 ≤ z ∧ z ≤ 2000) (h3 : ns.length ≤ 3) {i : Nat} (hi : i < ns.length) : 0 ≤ (shareL of ns).getD i 0 ∧ (shareL of ns).getD i 0 ≤ 2000 := by
  obtain ⟨g1, g2⟩ := share_parts (of := of) hs h3
  have hnn : ∀ j, j < ns.length → 0 ≤ (shareL of ns).getD j 0 := fun j hj => by
    have hq := quo_bd h0 hs hn hj
    rcases g1 j hj with h | ⟨h, _⟩ <;> omega
  refine ⟨hnn i hi, ?_⟩
  have key : ∀ xs : List Int, (∀ j, j < xs.length → 0 ≤ xs.getD j 0) → ∀ j, j < xs.length → xs.getD j 0 ≤ sumI xs := by
    intro xs
    induction xs with
    | nil => intro _ j hj; simp at hj
    | cons a xs ih =>
      intro h j hj
      have ha := h 0 (by simp)
      have htl : ∀ j, j < xs.length → 0 ≤ xs.getD j 0 := fun j hj => by have := h (j + 1) (by simp; omega); simpa using this
      have hsn : 0 ≤ sumI xs := by
        have : ∀ xs : List Int, (∀ j, j < xs.length → 0 ≤ xs.getD j 0) → 0 ≤ sumI xs := by
          intro xs
          induction xs with
          | nil => intro _; simp [sumI]
          | cons b xs ih =>
            intro h
            have := ih fun j hj => by have := h (j + 1) (by simp; omega); simpa using this
            have := h 0 (by simp)
            simp only [List.getD_cons_zero] at this
            rw [sumI_cons]
            omega
        exact this xs htl
      rw [sumI_cons]
      simp only [List.getD_cons_zero] at ha
      cases j with
      | zero => simp only [List.getD_cons_zero]; omega
      | succ j =>
        simp only [List.getD_cons_succ]
        have := ih htl j (by simpa using hj)
        omega
  have := key (shareL of ns) (fun j hj => hnn j (by rw [shareL_len] at hj; exact hj)) i (by rw [shareL_len]; exact hi)
  omega

/-- The bounds of all shares. -/
theorem shares_plain {l : LedgerD} (h : askedErr l true = 0) {pot : Int} (h0 : 0 ≤ pot ∧ pot ≤ 2000) (hno : noneS l (duesT l) = false) :
    (shrL l pot (duesT l)).length = l.field.weeders.toNat ∧ ∀ i, i < l.field.weeders.toNat → widL emptyR ((rowsL l).map fun t => (rshareL pot (doneZ l.field.weeders.toNat t)).getD i 0) = (shrL l pot (duesT l)).getD i (0, 0) := by
  obtain ⟨hS, d0, hd0, hc0⟩ := asked_ok h
  have hw := (soundF_of hS.field).weed1
  have hlen : ∀ d ∈ duesT l, canPay l [] d = true → (nowsS l pot d).length = l.field.weeders.toNat := fun d hd _ => nowsS_len l pot (duesT_three l d hd) hw
  obtain ⟨t0, ht0, rfl⟩ := mem_duesT.1 hd0
  have hr0 := (mem_rowsL hS).2 ⟨ht0, hc0⟩
  have hpos : ∀ t ∈ rowsL l, 0 < sumI (doneZ l.field.weeders.toNat t) := fun t ht => by
    have h1 := (done_sum hS ((mem_rowsL hS).1 ht).1).1
    have h2 : sumI (doneZ l.field.weeders.toNat t) ≠ 0 := fun e => by
      rw [none_plain hS, List.any_eq_false] at hno
      exact hno t ht (by rw [e]; rfl)
    omega
  have hull := fun i (hi : i < l.field.weeders.toNat) => accTo_hull (canPay l []) (nowsS l pot) (duesT l) l.field.weeders.toNat hlen hi (duesT l).length (Nat.le_refl _)
  rw [List.take_length] at hull
  have hw0 := (soundF_of hS.field).weed0
  refine ⟨?_, fun i hi => ?_⟩
  · rcases hull 0 (by omega) with ⟨_, h2⟩ | ⟨h1, _⟩
    · have := h2 _ hd0
      rw [hc0] at this
      cases this
    · exact h1
  · rcases hull i hi with ⟨_, h2⟩ | ⟨_, h2⟩
    · have := h2 _ hd0
      rw [hc0] at this
      cases this
    · have e : ∀ t ∈ rowsL l, (nowsS l pot (duesV l.rate t)).getD i (0, 0) = ((rshareL pot (doneZ l.field.weeders.toNat t)).getD i 0, (rshareL pot (doneZ l.field.weeders.toNat t)).getD i 0) ∧ 0 ≤ (rshareL pot (doneZ l.field.weeders.toNat t)).getD i 0 ∧ (rshareL pot (doneZ l.field.weeders.toNat t)).getD i 0 ≤ 2000 := fun t ht => by
        have hm := ((mem_rowsL hS).1 ht).1
        rw [share_row hS hm (hpos t ht)]
        have hdl := dueV_length hS t
        have hil : i < (shareL pot (dueV l t)).length := by rw [shareL_len, hdl]; exact hi
        refine ⟨?_, share_in h0 ?_ (fun z hz => ?_) (by rw [hdl]; omega) (by rw [hdl]; exact hi)⟩
        · unfold nowsS
          rw [← dueV_at]
          simp [List.getD, hil]
        · rw [← done_due hS hm, sumI_scale]
          exact Int.mul_pos (hpos t ht) (by have := hS.rate; omega)
        · have := dueV_bd hS (row_len hS hm) z hz
          omega
      refine (widL_hull ?_ ?_).unique (h2.congr fun x => ?_)
      · intro hz
        rw [List.map_eq_nil_iff] at hz
        rw [hz] at hr0
        cases hr0
      · intro x hx
        obtain ⟨t, ht, rfl⟩ := List.mem_map.1 hx
        have := (e t ht).2
        omega
      · constructor
        · rintro ⟨d, hd, hc, rfl⟩
          obtain ⟨t, ht, rfl⟩ := mem_duesT.1 hd
          have hr := (mem_rowsL hS).2 ⟨ht, hc⟩
          exact ⟨_, List.mem_map.2 ⟨t, hr, rfl⟩, (e t hr).1⟩
        · rintro ⟨x, hx, rfl⟩
          obtain ⟨t, ht, rfl⟩ := List.mem_map.1 hx
          obtain ⟨h1, h3⟩ := (mem_rowsL hS).1 ht
          exact ⟨_, mem_duesT.2 ⟨t, h1, rfl⟩, h3, (e t ht).1.symm⟩
end Go.Proofs.YtdjgikcnmokjkaaGreat
