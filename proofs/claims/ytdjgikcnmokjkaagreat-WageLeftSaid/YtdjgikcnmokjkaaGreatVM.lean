/-
  Plain: the reference of chapter 9, penny by penny: fits, Sums, Has, Can, Rows, Payable, Bounds.
-/
import Derived.Test.YtdjgikcnmokjkaaGreatVK
namespace Go.Proofs.YtdjgikcnmokjkaaGreat
open Go.RowKit Go.RG Go.SL Go.Shelf Cou Go.TB
set_option maxHeartbeats 400000
set_option maxRecDepth 10000

theorem contains_bits (m i : Nat) : (bitsL m).contains (i : Int) = m.testBit i := by
  rw [Bool.eq_iff_iff, List.contains_iff_mem]
  unfold bitsL
  rw [mem_bitsTo]
  constructor
  · rintro ⟨j, _, h, e⟩
    obtain rfl : i = j := by omega
    exact h
  · intro h
    refine ⟨i, ?_, h, rfl⟩
    have := Nat.ge_two_pow_of_testBit h
    have := Nat.lt_two_pow_self (n := i)
    omega

/-- A weeder can have been paid an amount, by the first k notes that are not left out. -/
def fitTo (l : LedgerD) (m w : Nat) (p : Int) (k : Nat) : Bool := (List.range k).all fun i => m.testBit i || ((l.notes.getD i (0, 0, 0)).1 != (w : Int) || inB p (l.notes.getD i (0, 0, 0)).2.1 (l.notes.getD i (0, 0, 0)).2.2)
def fitB (l : LedgerD) (m w : Nat) (due p : Int) : Bool := fitTo l m w p l.notes.length && inB p 0 due
theorem fitTo_succ (l : LedgerD) (m w : Nat) (p : Int) (k : Nat) : fitTo l m w p (k + 1) = (fitTo l m w p k && (m.testBit k || ((l.notes.getD k (0, 0, 0)).1 != (w : Int) || inB p (l.notes.getD k (0, 0, 0)).2.1 (l.notes.getD k (0, 0, 0)).2.2))) := by
  unfold fitTo
  rw [List.range_succ, List.all_append]
  simp
theorem fitTo_bad {l : LedgerD} {m w : Nat} {p due : Int} {k : Nat} (hk : k < l.notes.length) (h : (m.testBit k || ((l.notes.getD k (0, 0, 0)).1 != (w : Int) || inB p (l.notes.getD k (0, 0, 0)).2.1 (l.notes.getD k (0, 0, 0)).2.2)) = false) : fitB l m w due p = false := by
  unfold fitB fitTo
  rw [Bool.and_eq_false_iff]
  left
  rw [List.all_eq_false]
  exact ⟨k, List.mem_range.2 hk, by rw [h]; simp⟩
theorem fits_known (l : LedgerD) (m w : Nat) (due p : Int) : inB p (knownL l (bitsL m) w due).1 (knownL l (bitsL m) w due).2 = fitB l m w due p := by
  unfold knownL
  rw [foldl_both]
  unfold fitB fitTo
  rw [Bool.and_comm, List.all_filter]
  congr 1
  congr 1
  funext i
  rw [contains_bits]
  cases m.testBit i <;> simp [bne]

theorem canS_nonneg {rs : List Rng} (h : ∀ r ∈ rs, 0 ≤ r.1) {s : Int} (hs : canS rs s = true) : 0 ≤ s := by
  unfold canS at hs
  rw [Bool.and_eq_true] at hs
  have h1 := hs.2
  unfold inB at h1
  simp only [Bool.and_eq_true, decide_eq_true_eq] at h1
  have : ∀ rs : List Rng, (∀ r ∈ rs, 0 ≤ r.1) → 0 ≤ sumI (rs.map (·.1)) := by
    intro rs
    induction rs with
    | nil => intro _; simp [sumI]
    | cons a l ih => intro hh; rw [List.map_cons, sumI_cons]; have := ih fun r hr => hh r (by simp [hr]); have := hh a (by simp); omega
  have := this rs h
  omega
theorem canS_high {rs : List Rng} {s : Int} (hs : canS rs s = true) : s ≤ sumI (rs.map (·.2)) := by
  unfold canS at hs
  rw [Bool.and_eq_true] at hs
  have h1 := hs.2
  unfold inB at h1
  simp only [Bool.and_eq_true, decide_eq_true_eq] at h1
  exact h1.2

/-- What the weeders before number k can have been paid, without one. -/
def othTo (l : LedgerD) (m : Nat) (ds : List Int) (but : Int) (k : Nat) : List Rng := (List.range k).map fun (i : Nat) => if (i : Int) = but then (0, 0) else knownL l (bitsL m) i (ds.getD i 0)
theorem othTo_succ (l : LedgerD) (m : Nat) (ds : List Int) (but : Int) (k : Nat) : othTo l m ds but (k + 1) = othTo l m ds but k ++ [if (k : Int) = but then (0, 0) else knownL l (bitsL m) k (ds.getD k 0)] := by
  unfold othTo
  rw [List.range_succ, List.map_append]
  rfl
theorem othTo_low {l : LedgerD} (hS : SoundL l) (m : Nat) {ds : List Int} (hd : ∀ x ∈ ds, 0 ≤ x ∧ x ≤ 350) (but : Int) (k : Nat) : ∀ r ∈ othTo l m ds but k, 0 ≤ r.1 := by
  intro r hr
  obtain ⟨i, _, rfl⟩ := List.mem_map.1 hr
  split
  · simp
  · have : 0 ≤ ds.getD i 0 ∧ ds.getD i 0 ≤ 350 := by
      by_cases hi : i < ds.length
      · rw [show ds.getD i 0 = ds[i] from by simp [List.getD, hi]]
        exact hd _ (List.getElem_mem _)
      · rw [show ds.getD i 0 = 0 from by simp [List.getD, hi]]
        omega
    exact (known_bd hS (bitsL m) i this.1 (by omega)).1
theorem othTo_same (l : LedgerD) (m : Nat) (ds : List Int) {but : Int} {k : Nat} (h : (k : Int) = but) (s : Int) : canS (othTo l m ds but (k + 1)) s = canS (othTo l m ds but k) s := by
  rw [othTo_succ, if_pos h, Bool.eq_iff_iff, canS_snoc]
  constructor
  · rintro ⟨p, h1, h2, h3⟩
    have : p = 0 := by simp only at h1 h2; omega
    subst this
    simpa using h3
  · intro h
    exact ⟨0, Int.le_refl _, Int.le_refl _, by simpa using h⟩

/-! ### One weeder more -/

def canN (l : LedgerD) (m : Nat) (ds : List Int) (but : Int) (L k : Nat) : List Bool := (List.range L).map fun (s : Nat) => canS (othTo l m ds but k) (s : Int)
def nxt (fit : Nat → Bool) (cs : List Bool) (P t : Nat) : Bool := (List.range P).any fun p => fit p && (decide (p ≤ t) && cs.getD (t - p) false)
def nxtL (fit : Nat → Bool) (cs : List Bool) (P : Nat) : List Bool := (List.range cs.length).map (nxt fit cs P)
def nxtIn (fit : Nat → Bool) (cs : List Bool) (P S : Nat) : List Bool := (List.range cs.length).map fun t => nxt fit cs P t || (decide (P ≤ t) && (decide (t < S + P) && cs.getD (t - P) false))
theorem nxtL_len (fit : Nat → Bool) (cs : List Bool) (P : Nat) : (nxtL fit cs P).length = cs.length := by simp [nxtL]
theorem nxtIn_len (fit : Nat → Bool) (cs : List Bool) (P S : Nat) : (nxtIn fit cs P S).length = cs.length := by simp [nxtIn]
theorem canN_len (l : LedgerD) (m : Nat) (ds : List Int) (but : Int) (L k : Nat) : (canN l m ds but L k).length = L := by simp [canN]
theorem nxt_succ (fit : Nat → Bool) (cs : List Bool) (P t : Nat) : nxt fit cs (P + 1) t = (nxt fit cs P t || (fit P && (decide (P ≤ t) && cs.getD (t - P) false))) := by
  unfold nxt
  rw [List.range_succ, List.any_append]
  simp
theorem nxtL_zero (fit : Nat → Bool) (cs : List Bool) : nxtL fit cs 0 = List.replicate cs.length false := by
  refine List.ext_getElem (by simp [nxtL]) fun i h1 h2 => ?_
  simp [nxtL, nxt]
theorem nxtL_no {fit : Nat → Bool} {cs : List Bool} {P : Nat} (h : fit P = false) : nxtL fit cs (P + 1) = nxtL fit cs P := by
  unfold nxtL
  refine List.map_congr_left fun t _ => ?_
  rw [nxt_succ, h]
  simp
theorem nxtIn_zero (fit : Nat → Bool) (cs : List Bool) (P : Nat) : nxtIn fit cs P 0 = nxtL fit cs P := by
  unfold nxtIn nxtL
  refine List.map_congr_left fun t _ => ?_
  have : (decide (P ≤ t) && (decide (t < 0 + P) && cs.getD (t - P) false)) = false := by
    by_cases h : P ≤ t
    · have h2 : ¬ t < P := by omega
      simp [h2]
    · simp [h]
  rw [this, Bool.or_false]
theorem nxtIn_all {fit : Nat → Bool} {cs : List Bool} {P S : Nat} (h : fit P = true) (hS : cs.length ≤ S + P) : nxtIn fit cs P S = nxtL fit cs (P + 1) := by
  unfold nxtIn nxtL
  refine List.map_congr_left fun t ht => ?_
  have := List.mem_range.1 ht
  rw [nxt_succ, h]
  have h2 : t < S + P := by omega
  simp [h2]
theorem nxtIn_get {fit : Nat → Bool} {cs : List Bool} {P S : Nat} (hS : S + P < cs.length) : (nxtIn fit cs P S).getD (S + P) false = (nxtL fit cs P).getD (S + P) false := by
  simp [nxtIn, nxtL, List.getD, hS]
theorem nxtIn_succ {fit : Nat → Bool} {cs : List Bool} {P S : Nat} (hS : S + P < cs.length) : (nxtIn fit cs P S).set (S + P) ((nxtIn fit cs P S).getD (S + P) false || cs.getD S false) = nxtIn fit cs P (S + 1) := by
  refine List.ext_getElem (by simp [nxtIn]) fun i h1 h2 => ?_
  have hi : i < cs.length := by simpa [nxtIn] using h2
  rw [List.getElem_set]
  split
  · rename_i e
    subst e
    have e1 : (nxtIn fit cs P S).getD (S + P) false = nxt fit cs P (S + P) := by
      simp [nxtIn, List.getD, hS]
    rw [e1]
    simp only [nxtIn, List.getElem_map, List.getElem_range]
    have g1 : P ≤ S + P := by omega
    have g2 : S + P < S + 1 + P := by omega
    simp [g1, g2, List.getD]
  · rename_i e
    simp only [nxtIn, List.getElem_map, List.getElem_range]
    congr 2
    have : decide (i < S + P) = decide (i < S + 1 + P) := by
      rw [decide_eq_decide]
      omega
    rw [this]

theorem getD_map_range {f : Nat → Bool} {L i : Nat} (h : i < L) : ((List.range L).map f).getD i false = f i := by
  simp [List.getD, h]

/-- The reference's step is the sums of one weeder more. -/
theorem canN_step {l : LedgerD} (hS : SoundL l) (m : Nat) {ds : List Int} (hd : ∀ x ∈ ds, 0 ≤ x ∧ x ≤ 350) {but : Int} {L k : Nat} (hk : k < ds.length) (hb : (k : Int) ≠ but) :
    nxtL (fun p => fitB l m k (ds.getD k 0) (p : Int)) (canN l m ds but L k) ((ds.getD k 0).toNat + 1) = canN l m ds but L (k + 1) := by
  refine List.ext_getElem (by simp [nxtL, canN]) fun t h1 h2 => ?_
  have ht : t < L := by simpa [canN] using h2
  have hdk : 0 ≤ ds.getD k 0 ∧ ds.getD k 0 ≤ 350 := by
    rw [show ds.getD k 0 = ds[k] from by simp [List.getD, hk]]
    exact hd _ (List.getElem_mem _)
  have hkb := known_bd hS (bitsL m) k hdk.1 (by omega)
  simp only [nxtL, canN, List.getElem_map, List.getElem_range]
  rw [othTo_succ, if_neg hb, Bool.eq_iff_iff, canS_snoc]
  unfold nxt
  rw [List.any_eq_true]
  constructor
  · rintro ⟨p, hp, h⟩
    simp only [Bool.and_eq_true, decide_eq_true_eq] at h
    obtain ⟨h3, h4, h5⟩ := h
    rw [getD_map_range (by omega)] at h5
    rw [← fits_known] at h3
    unfold inB at h3
    simp only [Bool.and_eq_true, decide_eq_true_eq] at h3
    refine ⟨(p : Int), h3.1, h3.2, ?_⟩
    rw [show (t : Int) - p = ((t - p : Nat) : Int) from by omega]
    exact h5
  · rintro ⟨p, h3, h4, h5⟩
    have hnn := canS_nonneg (othTo_low hS m hd but k) h5
    have hp0 : 0 ≤ p := by omega
    refine ⟨p.toNat, List.mem_range.2 (by omega), ?_⟩
    simp only [Bool.and_eq_true, decide_eq_true_eq]
    refine ⟨?_, by omega, ?_⟩
    · rw [← fits_known]
      unfold inB
      simp only [Bool.and_eq_true, decide_eq_true_eq]
      omega
    · rw [getD_map_range (by omega)]
      rw [show ((t - p.toNat : Nat) : Int) = (t : Int) - p from by omega]
      exact h5
theorem canN_skip (l : LedgerD) (m : Nat) (ds : List Int) {but : Int} {L k : Nat} (hb : (k : Int) = but) : canN l m ds but L (k + 1) = canN l m ds but L k := by
  unfold canN
  refine List.map_congr_left fun s _ => ?_
  rw [othTo_same l m ds hb]
theorem canN_zero (l : LedgerD) (m : Nat) (ds : List Int) (but : Int) (L : Nat) : canN l m ds but (L + 1) 0 = (List.replicate (L + 1) false).set 0 true := by
  refine List.ext_getElem (by simp [canN]) fun i h1 h2 => ?_
  simp only [canN, List.getElem_map, List.getElem_range, othTo, List.range_zero, List.map_nil]
  rw [canS_nil, List.getElem_set]
  by_cases h : i = 0
  · subst h; simp
  · have : ¬ 0 = i := by omega
    simp [h, this]

/-! ### Has -/

theorem othTo_high {l : LedgerD} (hS : SoundL l) (m : Nat) {ds : List Int} (hd : ∀ x ∈ ds, 0 ≤ x ∧ x ≤ 350) (but : Int) : ∀ k, k ≤ ds.length → sumI ((othTo l m ds but k).map (·.2)) ≤ sumI (ds.take k) := by
  intro k
  induction k with
  | zero => intro _; simp [othTo, sumI]
  | succ k ih =>
    intro hk
    have := ih (by omega)
    rw [othTo_succ, List.map_append, List.map_singleton, sumI_snoc, List.take_succ_eq_append_getElem (by omega), sumI_snoc]
    have hdk := hd _ (List.getElem_mem (show k < ds.length by omega))
    have e : ds.getD k 0 = ds[k] := by simp [List.getD, show k < ds.length by omega]
    split
    · simp only; omega
    · have := (known_bd hS (bitsL m) k (due := ds.getD k 0) (by omega) (by omega)).2.2.2
      omega
theorem has_canN {l : LedgerD} (hS : SoundL l) (m : Nat) {ds : List Int} (hd : ∀ x ∈ ds, 0 ≤ x ∧ x ≤ 350) (but more : Int) {L : Nat} (hL : (L : Int) = sumI ds + 1) :
    ((List.range L).any fun (s : Nat) => (canN l m ds but L ds.length).getD s false && inB ((s : Int) + more) l.box.1 l.box.2) = hasB l.box (othTo l m ds but ds.length) more := by
  rw [Bool.eq_iff_iff, hasB_iff hS.box.2.1, List.any_eq_true]
  constructor
  · rintro ⟨s, hs, h⟩
    rw [Bool.and_eq_true] at h
    unfold canN at h
    rw [getD_map_range (List.mem_range.1 hs)] at h
    exact ⟨_, h.1, h.2⟩
  · rintro ⟨s, h1, h2⟩
    have h3 := canS_nonneg (othTo_low hS m hd but ds.length) h1
    have h4 := canS_high h1
    have h5 := othTo_high hS m hd but ds.length (Nat.le_refl _)
    rw [List.take_length] at h5
    refine ⟨s.toNat, List.mem_range.2 (by omega), ?_⟩
    rw [Bool.and_eq_true]
    unfold canN
    rw [getD_map_range (by omega), show ((s.toNat : Nat) : Int) = s from by omega]
    exact ⟨h1, h2⟩
theorem othTo_othR (l : LedgerD) (m : Nat) (ds : List Int) (but : Int) (h : ds.length = l.field.weeders.toNat) : othTo l m ds but ds.length = othR l (bitsL m) ds but := by
  unfold othTo othR
  rw [h]

/-! ### Can, Rows -/

theorem alone_take (l : LedgerD) (out d : List Int) : alone l out (d.take l.field.weeders.toNat) = alone l out d := by
  unfold alone
  refine List.map_congr_left fun i hi => ?_
  have := List.mem_range.1 hi
  congr 1
  simp [List.getD, this]
theorem canPay_take (l : LedgerD) (out d : List Int) : canPay l out (d.take l.field.weeders.toNat) = canPay l out d := by
  unfold canPay lowL highL
  rw [alone_take]
theorem paidL_take (l : LedgerD) (out d : List Int) : paidL l out (d.take l.field.weeders.toNat) = paidL l out d := by
  unfold paidL lowL highL
  rw [alone_take]
theorem dueV_at (l : LedgerD) (t : List Int) : dueV l t = (duesV l.rate t).take l.field.weeders.toNat := rfl
theorem dueV_bd {l : LedgerD} (hS : SoundL l) {t : List Int} (ht : t.length ≤ 7) : ∀ x ∈ dueV l t, 0 ≤ x ∧ x ≤ 350 := by
  intro x hx
  have hx' := List.mem_of_mem_take hx
  obtain ⟨i, hi, hie⟩ := List.getElem_of_mem hx'
  have hi3 : i < 3 := by rw [duesV_len] at hi; exact hi
  have := duesV_bd (rate := l.rate) (by have := hS.rate; omega) (by have := hS.rate; omega) t ht i hi3
  rw [show (duesV l.rate t).getD i 0 = x from by rw [← hie]; rw [List.getD_eq_getElem?_getD, List.getElem?_eq_getElem hi]; rfl] at this
  exact this
theorem dueV_length {l : LedgerD} (hS : SoundL l) (t : List Int) : (dueV l t).length = l.field.weeders.toNat := by
  unfold dueV
  rw [List.length_take, duesV_len]
  have := (soundF_of hS.field).weed1
  omega

def rowsTo (l : LedgerD) (k : Nat) : List (List Int) := ((rtruths l.field).take k).filter fun t => canPay l [] (dueV l t)
def rowsL (l : LedgerD) : List (List Int) := (rtruths l.field).filter fun t => canPay l [] (dueV l t)
theorem rowsTo_all (l : LedgerD) : rowsTo l (rtruths l.field).length = rowsL l := by unfold rowsTo rowsL; rw [List.take_length]
theorem mem_rowsL {l : LedgerD} (hS : SoundL l) {t : List Int} : t ∈ rowsL l ↔ t ∈ truthsF l.field [] ∧ canPay l [] (duesV l.rate t) = true := by
  unfold rowsL
  rw [List.mem_filter, mem_rtruths (soundF_of hS.field), dueV_at, canPay_take]
theorem can_possible {l : LedgerD} (hS : SoundL l) (m : Nat) : ((rtruths l.field).any fun t => canPay l (bitsL m) (dueV l t)) = possibleL l (bitsL m) := by
  unfold possibleL
  rw [Bool.eq_iff_iff, List.any_eq_true, List.any_eq_true]
  constructor
  · rintro ⟨t, ht, h⟩
    rw [dueV_at, canPay_take] at h
    exact ⟨_, mem_duesT.2 ⟨t, (mem_rtruths (soundF_of hS.field)).1 ht, rfl⟩, h⟩
  · rintro ⟨d, hd, h⟩
    obtain ⟨t, ht, rfl⟩ := mem_duesT.1 hd
    exact ⟨t, (mem_rtruths (soundF_of hS.field)).2 ht, by rw [dueV_at, canPay_take]; exact h⟩
theorem rowsL_none {l : LedgerD} (hS : SoundL l) : rowsL l = [] ↔ possibleL l [] = false := by
  have h := can_possible hS 0
  rw [show bitsL 0 = [] from rfl] at h
  rw [← h]
  unfold rowsL
  rw [List.filter_eq_nil_iff, List.any_eq_false]

/-! ### Payable, Bounds -/

def payB (l : LedgerD) (ds : List Int) (w p : Nat) : Bool := fitB l 0 w (ds.getD w 0) (p : Int) && hasB l.box (othTo l 0 ds (w : Int) ds.length) (p : Int)
def payTo9 (l : LedgerD) (ds : List Int) (w k : Nat) : List Int := ((List.range k).filter (payB l ds w)).map fun (p : Nat) => (p : Int)
def payL (l : LedgerD) (ds : List Int) (w : Nat) : List Int := payTo9 l ds w ((ds.getD w 0).toNat + 1)
theorem payTo9_yes {l : LedgerD} {ds : List Int} {w k : Nat} (h : payB l ds w k = true) : payTo9 l ds w (k + 1) = payTo9 l ds w k ++ [(k : Int)] := by
  unfold payTo9
  rw [List.range_succ, List.filter_append, List.map_append]
  simp [h]
theorem payTo9_no {l : LedgerD} {ds : List Int} {w k : Nat} (h : payB l ds w k = false) : payTo9 l ds w (k + 1) = payTo9 l ds w k := by
  unfold payTo9
  rw [List.range_succ, List.filter_append, List.map_append]
  simp [h]
theorem payTo9_len (l : LedgerD) (ds : List Int) (w k : Nat) : (payTo9 l ds w k).length ≤ k := by
  unfold payTo9
  rw [List.length_map]
  exact Nat.le_trans (List.length_filter_le _ _) (by simp)
theorem mem_payL {l : LedgerD} (hS : SoundL l) {ds : List Int} (hl : ds.length = l.field.weeders.toNat) (hd : ∀ x ∈ ds, 0 ≤ x ∧ x ≤ 350) {w : Nat} (hw : w < ds.length) (hc : canPay l [] ds = true) {x : Int} :
    x ∈ payL l ds w ↔ ((paidL l [] ds).getD w (0, 0)).1 ≤ x ∧ x ≤ ((paidL l [] ds).getD w (0, 0)).2 := by
  have hwl : w < l.field.weeders.toNat := by omega
  have e : ∀ p : Nat, payB l ds w p = inB (p : Int) ((paidL l [] ds).getD w (0, 0)).1 ((paidL l [] ds).getD w (0, 0)).2 := fun p => by
    rw [← payable_iff hwl hc]
    unfold payB
    rw [othTo_othR l 0 ds _ hl, ← fits_known]
    rfl
  have hdw : 0 ≤ ds.getD w 0 ∧ ds.getD w 0 ≤ 350 := by
    rw [show ds.getD w 0 = ds[w] from by simp [List.getD, hw]]
    exact hd _ (List.getElem_mem _)
  have hk := known_bd hS [] w hdw.1 (by omega)
  have hp := paidL_get l [] ds hwl
  unfold payL payTo9
  rw [List.mem_map]
  constructor
  · rintro ⟨p, hp, rfl⟩
    have := (List.mem_filter.1 hp).2
    rw [e] at this
    unfold inB at this
    simpa using this
  · intro hx
    have h0 : 0 ≤ x := by
      have := hx.1
      rw [hp] at this
      unfold bothR at this
      simp only at this
      omega
    have h1 : x ≤ ds.getD w 0 := by
      have := hx.2
      rw [hp] at this
      unfold bothR at this
      simp only at this
      omega
    refine ⟨x.toNat, List.mem_filter.2 ⟨List.mem_range.2 (by omega), ?_⟩, by omega⟩
    rw [e]
    unfold inB
    simp only [Bool.and_eq_true, decide_eq_true_eq]
    omega

def emptyR : Rng := (1099511627776, -1099511627776)
def widL (r : Rng) (xs : List Int) : Rng := xs.foldl wid r
theorem widL_snoc (r : Rng) (xs : List Int) (x : Int) : widL r (xs ++ [x]) = wid (widL r xs) x := by unfold widL; rw [List.foldl_append]; rfl
theorem widL_app (r : Rng) (xs ys : List Int) : widL r (xs ++ ys) = widL (widL r xs) ys := by unfold widL; rw [List.foldl_append]
theorem widL_bd {B : Int} {xs : List Int} (h : ∀ x ∈ xs, -B ≤ x ∧ x ≤ B) (hB : B ≤ 1000000) : -1099511627776 ≤ (widL emptyR xs).1 ∧ (widL emptyR xs).1 ≤ 1099511627776 ∧ -1099511627776 ≤ (widL emptyR xs).2 ∧ (widL emptyR xs).2 ≤ 1099511627776 := by
  have : ∀ (xs : List Int) (r : Rng), (∀ x ∈ xs, -B ≤ x ∧ x ≤ B) → (-1099511627776 ≤ r.1 ∧ r.1 ≤ 1099511627776 ∧ -1099511627776 ≤ r.2 ∧ r.2 ≤ 1099511627776) → (-1099511627776 ≤ (widL r xs).1 ∧ (widL r xs).1 ≤ 1099511627776 ∧ -1099511627776 ≤ (widL r xs).2 ∧ (widL r xs).2 ≤ 1099511627776) := by
    intro xs
    induction xs with
    | nil => intro r _ h; exact h
    | cons a l ih =>
      intro r hh hr
      have := hh a (by simp)
      refine ih (wid r a) (fun x hx => hh x (by simp [hx])) ?_
      unfold wid
      simp only
      omega
  exact this xs emptyR h (by unfold emptyR; simp)
/-- The range of some numbers: their minimum and their maximum. -/
theorem widL_hull {xs : List Int} (h0 : xs ≠ []) (hb : ∀ x ∈ xs, -1000000 ≤ x ∧ x ≤ 1000000) : HullOf (fun y => ∃ x ∈ xs, y = (x, x)) (widL emptyR xs) := by
  have : ∀ (xs : List Int) (S : Rng → Prop) (r : Rng), HullOf S r → HullOf (fun y => S y ∨ ∃ x ∈ xs, y = (x, x)) (widL r xs) := by
    intro xs
    induction xs with
    | nil => intro S r h; exact h.congr fun x => by simp
    | cons a l ih =>
      intro S r h
      have h2 := ih _ _ (h.add (a, a))
      have e : widR r (a, a) = wid r a := rfl
      rw [e] at h2
      refine h2.congr fun x => ?_
      constructor
      · rintro ((h | h) | ⟨y, hy, h⟩)
        · exact .inl h
        · exact .inr ⟨a, by simp, h⟩
        · exact .inr ⟨y, by simp [hy], h⟩
      · rintro (h | ⟨y, hy, h⟩)
        · exact .inl (.inl h)
        · rcases List.mem_cons.1 hy with rfl | hy
          · exact .inl (.inr h)
          · exact .inr ⟨y, hy, h⟩
  cases xs with
  | nil => exact absurd rfl h0
  | cons a l =>
    have e : widL emptyR (a :: l) = widL (a, a) l := by
      have := hb a (by simp)
      show widL (wid emptyR a) l = _
      have : wid emptyR a = (a, a) := by
        unfold wid emptyR
        simp only [Prod.mk.injEq]
        omega
      rw [this]
    rw [e]
    refine (this l _ _ (HullOf.one (a, a))).congr fun x => ?_
    simp

def bndAs (l : LedgerD) (rows : List (List Int)) (w : Nat) : List Int := rows.map fun t => (dueV l t).getD w 0
def bndBs (l : LedgerD) (rows : List (List Int)) (w : Nat) : List Int := rows.flatMap fun t => payL l (dueV l t) w
def bndCs (l : LedgerD) (rows : List (List Int)) (w : Nat) : List Int := rows.flatMap fun t => (payL l (dueV l t) w).map fun p => (dueV l t).getD w 0 - p

theorem HullOf.points {S T : Rng → Prop} {r : Rng} (h : HullOf S r) (h1 : ∀ y, S y → T (y.1, y.1) ∧ T (y.2, y.2)) (h2 : ∀ z, T z → ∃ y, S y ∧ y.1 ≤ z.1 ∧ z.2 ≤ y.2) : HullOf T r := by
  obtain ⟨⟨⟨a, ha, ha'⟩, k1⟩, ⟨b, hb, hb'⟩, k2⟩ := h
  refine ⟨⟨⟨_, (h1 a ha).1, ha'⟩, fun z hz => ?_⟩, ⟨_, (h1 b hb).2, hb'⟩, fun z hz => ?_⟩
  · obtain ⟨y, hy, g1, g2⟩ := h2 z hz
    have := k1 y hy
    omega
  · obtain ⟨y, hy, g1, g2⟩ := h2 z hz
    have := k2 y hy
    omega

theorem row_len {l : LedgerD} (hS : SoundL l) {t : List Int} (ht : t ∈ truthsF l.field []) : t.length ≤ 7 := by
  have := truthsF_len ht
  have := (soundF_of hS.field).rows1
  omega
theorem due_get {l : LedgerD} (t : List Int) {w : Nat} (hw : w < l.field.weeders.toNat) : (dueV l t).getD w 0 = (duesV l.rate t).getD w 0 := by
  rw [dueV_at]
  simp [List.getD, hw]

/-- What the reference finds for a weeder, with the rows of all truths. -/
theorem bnd_plain {l : LedgerD} (h : askedErr l true = 0) {w : Nat} (hw : w < l.field.weeders.toNat) :
    widL emptyR (bndAs l (rowsL l) w) = (bndL partE l (duesT l)).getD w (0, 0) ∧ widL emptyR (bndBs l (rowsL l) w) = (bndL partP l (duesT l)).getD w (0, 0) ∧ widL emptyR (bndCs l (rowsL l) w) = (bndL partO l (duesT l)).getD w (0, 0) := by
  obtain ⟨hS, hp⟩ := asked_ok h
  obtain ⟨d0, hd0, hc0⟩ := hp
  obtain ⟨t0, ht0, rfl⟩ := mem_duesT.1 hd0
  have hr0 : t0 ∈ rowsL l := (mem_rowsL hS).2 ⟨ht0, hc0⟩
  have hw3 := (soundF_of hS.field).weed1
  have facts : ∀ t ∈ rowsL l, duesV l.rate t ∈ duesT l ∧ canPay l [] (duesV l.rate t) = true ∧ (0 ≤ (duesV l.rate t).getD w 0 ∧ (duesV l.rate t).getD w 0 ≤ 350) ∧
      (∀ x, x ∈ payL l (dueV l t) w ↔ ((paidL l [] (duesV l.rate t)).getD w (0, 0)).1 ≤ x ∧ x ≤ ((paidL l [] (duesV l.rate t)).getD w (0, 0)).2) ∧
      ((paidL l [] (duesV l.rate t)).getD w (0, 0)).1 ≤ ((paidL l [] (duesV l.rate t)).getD w (0, 0)).2 ∧ 0 ≤ ((paidL l [] (duesV l.rate t)).getD w (0, 0)).1 ∧ ((paidL l [] (duesV l.rate t)).getD w (0, 0)).2 ≤ (duesV l.rate t).getD w 0 := by
    intro t ht
    obtain ⟨h1, h2⟩ := (mem_rowsL hS).1 ht
    have hd := mem_duesT.2 ⟨t, h1, rfl⟩
    refine ⟨hd, h2, duesT_bd hS hd w (by omega), fun x => ?_, ?_⟩
    · have := mem_payL hS (dueV_length hS t) (dueV_bd hS (row_len hS h1)) (w := w) (by rw [dueV_length hS]; exact hw) (by rw [dueV_at, canPay_take]; exact h2) (x := x)
      rw [this, dueV_at, paidL_take]
    · have := paidL_bd hS hd h2 hw
      exact ⟨this.2.1, this.1, paid_le hS hd hw⟩
  have hne : ∀ {f : List Int → List Int}, (∀ t ∈ rowsL l, f t ≠ []) → (rowsL l).flatMap f ≠ [] := by
    intro f hf e
    rw [List.flatMap_eq_nil_iff] at e
    exact hf t0 hr0 (e t0 hr0)
  have hull := fun p => bnd_hull ⟨duesV l.rate t0, hd0, hc0⟩ p hw
  refine ⟨?_, ?_, ?_⟩
  · refine (widL_hull (xs := bndAs l (rowsL l) w) ?_ ?_).unique ((hull partE).congr fun x => ?_)
    · intro e
      rw [bndAs, List.map_eq_nil_iff] at e
      rw [e] at hr0
      cases hr0
    · intro x hx
      obtain ⟨t, ht, rfl⟩ := List.mem_map.1 hx
      rw [due_get t hw]
      have := (facts t ht).2.2.1
      omega
    · constructor
      · rintro ⟨d, hd, hc, rfl⟩
        obtain ⟨t, ht, rfl⟩ := mem_duesT.1 hd
        exact ⟨_, List.mem_map.2 ⟨t, (mem_rowsL hS).2 ⟨ht, hc⟩, rfl⟩, by rw [due_get t hw]; rfl⟩
      · rintro ⟨x, hx, rfl⟩
        obtain ⟨t, ht, rfl⟩ := List.mem_map.1 hx
        have := facts t ht
        exact ⟨_, this.1, this.2.1, by rw [due_get t hw]; rfl⟩
  · refine (widL_hull (xs := bndBs l (rowsL l) w) ?_ ?_).unique ((hull partP).points ?_ ?_)
    · refine hne fun t ht e => ?_
      have := facts t ht
      have h2 := (this.2.2.2.1 _).2 ⟨Int.le_refl _, this.2.2.2.2.1⟩
      rw [e] at h2
      cases h2
    · intro x hx
      obtain ⟨t, ht, hx⟩ := List.mem_flatMap.1 hx
      have := facts t ht
      have h2 := (this.2.2.2.1 x).1 hx
      omega
    · rintro y ⟨d, hd, hc, rfl⟩
      obtain ⟨t, ht, rfl⟩ := mem_duesT.1 hd
      have hr := (mem_rowsL hS).2 ⟨ht, hc⟩
      have := facts t hr
      exact ⟨⟨_, List.mem_flatMap.2 ⟨t, hr, (this.2.2.2.1 _).2 ⟨Int.le_refl _, this.2.2.2.2.1⟩⟩, rfl⟩, ⟨_, List.mem_flatMap.2 ⟨t, hr, (this.2.2.2.1 _).2 ⟨this.2.2.2.2.1, Int.le_refl _⟩⟩, rfl⟩⟩
    · rintro z ⟨x, hx, rfl⟩
      obtain ⟨t, ht, hx⟩ := List.mem_flatMap.1 hx
      have := facts t ht
      have h2 := (this.2.2.2.1 x).1 hx
      exact ⟨_, ⟨_, this.1, this.2.1, rfl⟩, h2.1, h2.2⟩
  · refine (widL_hull (xs := bndCs l (rowsL l) w) ?_ ?_).unique ((hull partO).points ?_ ?_)
    · refine hne fun t ht e => ?_
      rw [List.map_eq_nil_iff] at e
      have := facts t ht
      have h2 := (this.2.2.2.1 _).2 ⟨Int.le_refl _, this.2.2.2.2.1⟩
      rw [e] at h2
      cases h2
    · intro x hx
      obtain ⟨t, ht, hx⟩ := List.mem_flatMap.1 hx
      obtain ⟨p, hp, rfl⟩ := List.mem_map.1 hx
      rw [due_get t hw]
      have := facts t ht
      have h2 := (this.2.2.2.1 p).1 hp
      omega
    · rintro y ⟨d, hd, hc, rfl⟩
      obtain ⟨t, ht, rfl⟩ := mem_duesT.1 hd
      have hr := (mem_rowsL hS).2 ⟨ht, hc⟩
      have := facts t hr
      refine ⟨⟨_, List.mem_flatMap.2 ⟨t, hr, List.mem_map.2 ⟨_, (this.2.2.2.1 _).2 ⟨this.2.2.2.2.1, Int.le_refl _⟩, rfl⟩⟩, ?_⟩, ⟨_, List.mem_flatMap.2 ⟨t, hr, List.mem_map.2 ⟨_, (this.2.2.2.1 _).2 ⟨Int.le_refl _, this.2.2.2.2.1⟩, rfl⟩⟩, ?_⟩⟩
      · rw [due_get t hw]; rfl
      · rw [due_get t hw]; rfl
    · rintro z ⟨x, hx, rfl⟩
      obtain ⟨t, ht, hx⟩ := List.mem_flatMap.1 hx
      obtain ⟨p, hp, rfl⟩ := List.mem_map.1 hx
      have := facts t ht
      have h2 := (this.2.2.2.1 p).1 hp
      rw [due_get t hw]
      exact ⟨_, ⟨_, this.1, this.2.1, rfl⟩, by unfold partO; simp only; omega, by unfold partO; simp only; omega⟩
end Go.Proofs.YtdjgikcnmokjkaaGreat
