/-
  Plain laws of chapter 4, sixth part, and contracts of the reference: Kept, Keeps.
-/
import Derived.WalkKit
import Derived.WalkLawsBesides
import Derived.WalkSpells
import Derived.Outline
import Derived.Handy
import Derived.KernelRfl
import Derived.Lib.Hide
import Derived.Test.YtoibfafmnaooaaaSD
namespace Go.Proofs.Ytoibfafmnaooaaa
open Go.RowKit Go.RG Go.SL Go.Shelf Cou
set_option maxHeartbeats 400000
set_option maxRecDepth 10000

/-- Whether a truth is kept; what turnings do to some truths. -/
def keptR (h : HeapD) (turns : List Int) (t : Int × List Int) : Bool := (List.range (h.last + 1).toNat).all fun i => inB (heatI h turns i t) h.die h.burn
def keepsR (h : HeapD) (turns : List Int) (l : List (Int × List Int)) : Int := if l.countP (keptR h turns) = l.length then 1 else if l.countP (keptR h turns) = 0 then 2 else 3

theorem lost_in (h : HeapD) (n : Int) : (!lostB h n) = inB n h.die h.burn := by
  unfold lostB inB
  rw [Bool.eq_iff_iff]
  simp only [Bool.not_or, Bool.and_eq_true, Bool.not_eq_true', decide_eq_false_iff_not, decide_eq_true_eq]
  omega

theorem keptR_no {h : HeapD} {turns : List Int} {t : Int × List Int} {k : Nat} (hk : k < (h.last + 1).toNat) (h1 : inB (heatI h turns k t) h.die h.burn = false) : keptR h turns t = false := by
  unfold keptR
  rw [List.all_eq_false]
  exact ⟨k, List.mem_range.2 hk, by rw [h1]; simp⟩
theorem keptR_all {h : HeapD} {turns : List Int} {t : Int × List Int} : keptR h turns t = true ↔ ∀ k, k < (h.last + 1).toNat → inB (heatI h turns k t) h.die h.burn = true := by
  unfold keptR
  rw [List.all_eq_true]
  exact ⟨fun hh k hk => hh k (List.mem_range.2 hk), fun hh k hk => hh k (List.mem_range.1 hk)⟩

theorem kept_eq {h : HeapD} {turns : List Int} {t : Int × List Int} (hl : (h.last + 1).toNat ≤ t.2.length) (h9 : h.last ≤ 9) : keptL h (heats h t turns) = keptR h turns t := by
  have hlen : (heats h t turns).length = 10 := heatsTo_length _ _ _ _ _ _
  have hat : ∀ j (hj : j < (h.last + 1).toNat), (heats h t turns)[j]'(by omega) = heatI h turns j t := fun j hj => by
    rw [← heatI_at (turns := turns) (h := h) (t := t) (i := j) (by omega) (by omega), getD_lt (by omega)]
  rw [Bool.eq_iff_iff, keptR_all]
  unfold keptL
  rw [List.all_eq_true]
  constructor
  · intro hh k hk
    have := hh ((heats h t turns)[k]'(by omega)) (by rw [List.mem_take_iff_getElem]; exact ⟨k, by omega, rfl⟩)
    rwa [hat k hk, lost_in] at this
  · intro hh x hx
    rw [List.mem_take_iff_getElem] at hx
    obtain ⟨k, hk, rfl⟩ := hx
    rw [hat k (by omega), lost_in]
    exact hh k (by omega)

theorem truth_len {h : HeapD} (hS : Sound h) {t : Int × List Int} (hm : t ∈ truthsL h []) : (h.last + 1).toNat ≤ t.2.length := by
  have := (truth_bd hS hm).1
  have := hS.wetLen
  omega

theorem every_allR {h : HeapD} (hS : Sound h) (turns : List Int) : (everyL h turns).all (keptL h) = true ↔ ∀ t ∈ truthsR h, keptR h turns t = true := by
  rw [List.all_eq_true]
  constructor
  · intro hh t ht
    have hm := (truthsR_mem hS t).1 ht
    rw [← kept_eq (truth_len hS hm) hS.last9]
    exact hh _ ((mem_everyL h turns _).2 ⟨t, hm, rfl⟩)
  · intro hh y hy
    obtain ⟨t, hm, rfl⟩ := (mem_everyL h turns y).1 hy
    rw [kept_eq (truth_len hS hm) hS.last9]
    exact hh t ((truthsR_mem hS t).2 hm)
theorem every_anyR {h : HeapD} (hS : Sound h) (turns : List Int) : (everyL h turns).any (keptL h) = true ↔ ∃ t ∈ truthsR h, keptR h turns t = true := by
  rw [List.any_eq_true]
  constructor
  · rintro ⟨y, hy, hk⟩
    obtain ⟨t, hm, rfl⟩ := (mem_everyL h turns y).1 hy
    rw [kept_eq (truth_len hS hm) hS.last9] at hk
    exact ⟨t, (truthsR_mem hS t).2 hm, hk⟩
  · rintro ⟨t, ht, hk⟩
    have hm := (truthsR_mem hS t).1 ht
    rw [← kept_eq (truth_len hS hm) hS.last9] at hk
    exact ⟨_, (mem_everyL h turns _).2 ⟨t, hm, rfl⟩, hk⟩

/-- The verdict: the reference's is the program's. -/
theorem keeps_eq {h : HeapD} {turns : List Int} (hask : askErr h turns = 0) : keepsR h turns (truthsR h) = keepsV h turns := by
  have hS := ask_sound hask
  unfold keepsR keepsV
  simp only [hask, ne_eq, not_true_eq_false, if_false]
  by_cases h1 : (everyL h turns).all (keptL h) = true
  · rw [if_pos h1, if_pos (List.countP_eq_length.2 ((every_allR hS turns).1 h1))]
  · rw [if_neg h1, if_neg (fun e => h1 ((every_allR hS turns).2 (List.countP_eq_length.1 e)))]
    by_cases h2 : (everyL h turns).any (keptL h) = true
    · rw [if_pos h2, if_neg (fun e => ?_)]
      obtain ⟨t, ht, hk⟩ := (every_anyR hS turns).1 h2
      exact List.countP_eq_zero.1 e t ht hk
    · rw [if_neg h2, if_pos (List.countP_eq_zero.2 fun t ht hk => h2 ((every_anyR hS turns).2 ⟨t, ht, hk⟩))]

theorem keeps_bd (h : HeapD) (turns : List Int) (l : List (Int × List Int)) : 1 ≤ keepsR h turns l ∧ keepsR h turns l ≤ 3 := by
  unfold keepsR
  split
  · decide
  · split <;> decide

/-- An error: nothing else is said. -/
theorem ask_bad {h : HeapD} {turns : List Int} {E : Int} (ha : askErr h turns = E) (hE : E ≠ 0) : askErr h turns = E ∧ boundsOut h turns = [] ∧ keepsV h turns = 0 ∧ (askErr h turns == 0 && keepsV h turns == 1) = false := by
  subst ha
  refine ⟨rfl, by unfold boundsOut; rw [if_neg hE], by unfold keepsV; rw [if_pos hE], ?_⟩
  rw [Bool.and_eq_false_iff]
  left
  rw [beq_eq_false_iff_ne]
  exact hE

theorem fear_bad {h : HeapD} {turns : List Int} {E : Int} (ha : askErr h turns = E) (hE : E ≠ 0) : fearOut h turns = (0, false, false) ∧ fearErr h turns = E := by
  subst ha
  refine ⟨?_, by unfold fearErr; rw [if_pos hE]⟩
  unfold fearOut boundsOut
  rw [if_neg hE]
  rfl

/-- The bounds: the reference's are the program's. -/
theorem bounds_eq {h : HeapD} {turns : List Int} (hask : askErr h turns = 0) (ht : (truthsL h []).isEmpty = false) :
    (boundsOut h turns).length = (h.last + 1).toNat ∧ ∀ i, i < (h.last + 1).toNat → (boundsOut h turns).getD i (0, 0) = bndR h turns (truthsR h) i ∧ (bndR h turns (truthsR h) i).1 ≤ (bndR h turns (truthsR h) i).2 := by
  have hS := ask_sound hask
  have hbo : boundsOut h turns = boundsL (h.last + 1).toNat (everyL h turns) := by unfold boundsOut; rw [if_pos hask]
  rw [hbo]
  refine ⟨boundsL_len (every_ne ht), fun i hi => ?_⟩
  obtain ⟨h1, h2⟩ := bndR_at hS ht (turns := turns) hi
  exact ⟨h1.symm, h2⟩

/-- The reference's bounds: all heats are within them; both are reached. -/
theorem bndR_all {h : HeapD} (hS : Sound h) {turns : List Int} {i : Nat} (hi : i < (h.last + 1).toNat) : (∀ t ∈ truthsR h, (bndR h turns (truthsR h) i).1 ≤ heatI h turns i t ∧ heatI h turns i t ≤ (bndR h turns (truthsR h) i).2) ∧
    (truthsR h ≠ [] → (∃ t ∈ truthsR h, (bndR h turns (truthsR h) i).1 = heatI h turns i t) ∧ ∃ t ∈ truthsR h, (bndR h turns (truthsR h) i).2 = heatI h turns i t) := by
  have hl9 := hS.last9
  have hb : ∀ t ∈ truthsR h, 0 ≤ heatI h turns i t ∧ heatI h turns i t ≤ 2000 := fun t hm => by
    obtain ⟨h1, h2, h3⟩ := truth_bd hS ((truthsR_mem hS t).1 hm)
    have := heatAt_bd turns t.2 hS.size0 hS.size1 hS.cool0 hS.cool1 h2.1 h2.2 h3 (i + 1)
    unfold heatI
    omega
  obtain ⟨g1, g2⟩ := bndTo_at hb _ (Nat.le_refl _)
  rw [List.take_length] at g1
  exact ⟨g1, fun hne => g2 (fun e => hne (List.eq_nil_of_length_eq_zero e))⟩

theorem keepsR_one {h : HeapD} {turns : List Int} {l : List (Int × List Int)} : keepsR h turns l = 1 ↔ ∀ t ∈ l, keptR h turns t = true := by
  rw [← List.countP_eq_length]
  unfold keepsR
  constructor
  · intro e
    by_cases h1 : l.countP (keptR h turns) = l.length
    · exact h1
    · rw [if_neg h1] at e
      split at e <;> cases e
  · intro e
    rw [if_pos e]

theorem fearB_no {h : HeapD} {r : Rng} : fearB h r = false ↔ r.2 ≤ h.burn ∧ h.die ≤ r.1 := by
  unfold fearB
  rw [Bool.or_eq_false_iff, decide_eq_false_iff_not, decide_eq_false_iff_not]
  omega

/-- Before the first danger no truth is lost; without one the turnings keep the heap always. -/
theorem danger_plain {h : HeapD} {turns : List Int} (hask : askErr h turns = 0) (ht : (truthsL h []).isEmpty = false) :
    (fearR h turns (truthsR h) = none → keepsV h turns = 1) ∧
    (∀ i, fearR h turns (truthsR h) = some i → i < (h.last + 1).toNat ∧ keepsV h turns ≠ 1 ∧ fearB h (bndR h turns (truthsR h) i) = true ∧ ∀ j, j < i → ∀ t ∈ truthsR h, inB (heatI h turns j t) h.die h.burn = true) := by
  have hS := ask_sound hask
  have hsafe : ∀ j, j < (h.last + 1).toNat → fearB h (bndR h turns (truthsR h) j) = false → ∀ t ∈ truthsR h, inB (heatI h turns j t) h.die h.burn = true := fun j hj hf t hm => by
    have h1 := fearB_no.1 hf
    have h2 := (bndR_all hS (turns := turns) hj).1 t hm
    simp only [inB, Bool.and_eq_true, decide_eq_true_eq]
    omega
  rw [← keeps_eq hask]
  refine ⟨fun hn => keepsR_one.2 fun t hm => keptR_all.2 fun k hk => hsafe k hk ?_ t hm, fun i hi => ?_⟩
  · unfold fearR at hn
    rw [List.find?_eq_none] at hn
    simpa using hn k (List.mem_range.2 hk)
  · unfold fearR at hi
    rw [List.find?_range_eq_some] at hi
    obtain ⟨h1, h2, h3⟩ := hi
    have h2' : i < (h.last + 1).toNat := by simpa using h2
    refine ⟨h2', fun e => ?_, h1, fun j hj t hm => hsafe j (by omega) (by simpa using h3 j hj) t hm⟩
    have hall := keepsR_one.1 e
    have hne : truthsR h ≠ [] := fun e => by
      cases hl : truthsL h [] with
      | nil => rw [hl] at ht; cases ht
      | cons a l =>
        have := (truthsR_mem hS a).2 (by rw [hl]; exact List.mem_cons_self)
        rw [e] at this
        cases this
    obtain ⟨⟨t1, ht1, e1⟩, t2, ht2, e2⟩ := (bndR_all hS (turns := turns) h2').2 hne
    have k1 := keptR_all.1 (hall t1 ht1) i h2'
    have k2 := keptR_all.1 (hall t2 ht2) i h2'
    simp only [inB, Bool.and_eq_true, decide_eq_true_eq] at k1 k2
    have : fearB h (bndR h turns (truthsR h) i) = false := fearB_no.2 ⟨by omega, by omega⟩
    rw [this] at h1
    cases h1


set_option maxHeartbeats 2000000 in
theorem Kept_any (h : HeapD) (oa ob oc : Option Addr) (na ca nb cb nc cc : Nat) (t : Int × List Int) (hO : HeatOk h t) (uv rv' : Value) (turns : List Int) (w : World) (hu : IntsAt w uv t.2) (hr : IntsAt w rv' turns)
    (hl : (h.last + 1).toNat ≤ t.2.length) (h0 : 0 ≤ h.last) (h9 : h.last ≤ 9) :
    Calls Try.prog 89 #[hv h (.slice oa na ca) (.slice ob nb cb) (.slice oc nc cc), .agg #[iv t.1, uv], rv'] w (PV (.bool (keptR h turns t)) w) := by
  obtain ⟨o1, c1, rfl⟩ := hu.open
  obtain ⟨or, cr, rfl⟩ := hr.open
  have HH := Lib.hid (fun (k : Nat) (hk : k < (h.last + 1).toNat) (W : World) (hB : Below w.heap.size w W) => Heat_at h t hO oa ob oc na ca nb cb nc cc (.slice o1 t.2.length c1) (.slice or turns.length cr) turns k W (by omega) (by omega) (hu.below hB (Nat.le_refl _)) (hr.below hB (Nat.le_refl _)))
  obtain ⟨N, hN⟩ : ∃ N : Nat, h.last = N := ⟨h.last.toNat, by omega⟩
  have HN := Lib.hid hN
  obtain ⟨q, hq⟩ : ∃ q, keptR h turns t = q := ⟨_, rfl⟩
  have HQ := Lib.hid hq
  rw [hq]
  have hN9 : N ≤ 9 := by omega
  clear hu hr hO hq hN hl
  go_enter Try.func89, Try.ntmps89
  go_wp2_with fail
  refine gworld fun W1 hW1 => ?_
  have HB1 := Lib.hid (show Below w.heap.size w W1 from by rw [hW1]; exact (by repeat (first | exact Below.refl _ _ | assumption | refine bgo ?_ (by assumption) | refine bgoAlloc ?_ _ | refine bgoDrew ?_ | refine bgoSet ?_ (by simp; omega) _)))
  have HX1 := Lib.hid (show W1.heap[w.heap.size]? = some (.cells #[iv h.last, iv h.size, iv h.cool, iv h.die, iv h.burn, iv h.start.1, iv h.start.2, .slice oa na ca, .slice ob nb cb, .slice oc nc cc] 28 (0, 0)) from by rw [hW1]; exact (Below.heap_alloc _ _ _ (by first | omega | (simp; done) | (simp; omega))).trans (heap_new0 _ _))
  have HX2 := Lib.hid (show W1.heap[w.heap.size + 1]? = some (.cells #[iv t.1, .slice o1 t.2.length c1] 66 (0, 0)) from by rw [hW1]; exact heap_new1 _ _ _)
  clear hW1
  go_loopw [7] (fun u wr => ∃ k : Nat, k ≤ N + 1 ∧ u = .int .i64 k ∧ Below W1.heap.size W1 wr ∧ ∀ j, j < k → inB (heatI h turns j t) h.die h.burn = true) (fun u _ => N + 1 - (intOf u).toNat)
  case atStart => exact ⟨0, Nat.zero_le _, rfl, Below.refl _ _, fun j hj => by omega⟩
  case round =>
    obtain ⟨k, hk, rfl, hB, hno⟩ := hrel
    have HB := Lib.hid (And.intro hB hno)
    obtain ⟨hc0, _, hs0⟩ := cells_of_block ((hB.block _ (cells_of_block HX1.out).2.2).trans HX1.out)
    obtain ⟨hc1, _, hs1⟩ := cells_of_block ((hB.block _ (cells_of_block HX2.out).2.2).trans HX2.out)
    clear hB hno
    by_cases hlt : k ≤ N
    case neg =>
      have hltI : decide ((k : Int) ≤ h.last) = false := by rw [HN.out]; simp; omega
      obtain rfl : q = true := by
        rw [← HQ.out, keptR_all]
        exact fun j hj => HB.out.2 j (by have := HN.out; omega)
      go_wp2_with fail
      go_returns
      exact ⟨by simp, bgo HB1.out HB.out.1⟩
    have hltI : decide ((k : Int) ≤ h.last) = true := by rw [HN.out]; simp; omega
    obtain ⟨m, hm⟩ : ∃ m, heatAt h.size h.cool turns t.1 t.2 (k + 1) = m := ⟨_, rfl⟩
    have HM := Lib.hid hm
    obtain ⟨b, hb⟩ : ∃ b, inB m h.die h.burn = b := ⟨_, rfl⟩
    have HIB := Lib.hid hb
    have HHK := Lib.hid (fun (W : World) (hB : Below w.heap.size w W) => HH.out k (by have := HN.out; omega) W hB)
    rw [hm] at HHK
    clear hm hb
    cases b
    · obtain rfl : q = false := by
        rw [← HQ.out]
        refine keptR_no (k := k) (by have := HN.out; omega) ?_
        show inB (heatAt h.size h.cool turns t.1 t.2 (k + 1)) h.die h.burn = false
        rw [HM.out]; exact HIB.out
      go_wp2_with fail
      refine wp_region_rg 11 [] none [(4, Spec.val (iv m)), (9, Spec.val (.bool false))] (by kernel_rfl) (by kernel_rfl) ?_
      simp only [List.take_succ_cons, List.take_zero, List.drop_succ_cons, List.drop_zero]
      repeat (first | (refine tree_det (by rfl) _ (by rfl) (fun W hW => by go_simp; (try simp (disch := omega) only [IntWalk.i64_in]); try rfl) ?_; simp only [Act.put, List.setIfInBounds_toArray, List.set_cons_succ, List.set_cons_zero]) | (refine tree_skip (by rfl) (by rfl) ?_; simp only [Act.put, List.setIfInBounds_toArray, List.set_cons_succ, List.set_cons_zero]))
      refine tree_val _ (by rfl) (by rfl) 37 _ (fun W hW => by go_simp; try rfl) (fun W hE hF => by exact HHK.out W (bgo HB1.out (bgo HB.out.1 (Ext.below (show Ext [] wr W from hE))))) ?_
      simp only [Act.put, List.setIfInBounds_toArray, List.set_cons_succ, List.set_cons_zero]
      repeat (first | (refine tree_det (by rfl) _ (by rfl) (fun W hW => by go_simp; (try simp (disch := omega) only [IntWalk.i64_in]); try rfl) ?_; simp only [Act.put, List.setIfInBounds_toArray, List.set_cons_succ, List.set_cons_zero]) | (refine tree_skip (by rfl) (by rfl) ?_; simp only [Act.put, List.setIfInBounds_toArray, List.set_cons_succ, List.set_cons_zero]))
      refine tree_val _ (by rfl) (by rfl) 43 _ (fun W hW => by go_simp; try rfl) (fun W hE hF => by exact by have := In_any m h.die h.burn W; rw [HIB.out] at this; exact this) ?_
      simp only [Act.put, List.setIfInBounds_toArray, List.set_cons_succ, List.set_cons_zero]
      repeat (first | (refine tree_det (by rfl) _ (by rfl) (fun W hW => by go_simp; (try simp (disch := omega) only [IntWalk.i64_in]); try rfl) ?_; simp only [Act.put, List.setIfInBounds_toArray, List.set_cons_succ, List.set_cons_zero]) | (refine tree_skip (by rfl) (by rfl) ?_; simp only [Act.put, List.setIfInBounds_toArray, List.set_cons_succ, List.set_cons_zero]))
      intro W3 hE hF
      have HE := Lib.hid (show Ext [] wr W3 from hE)
      clear hE hF hc0 hc1
      go_wp2_with fail
      go_returns
      exact ⟨by simp, bgo HB1.out (bgo HB.out.1 HE.out.below)⟩
    · go_wp2_with fail
      refine wp_region_rg 11 [] none [(4, Spec.val (iv m)), (9, Spec.val (.bool true))] (by kernel_rfl) (by kernel_rfl) ?_
      simp only [List.take_succ_cons, List.take_zero, List.drop_succ_cons, List.drop_zero]
      repeat (first | (refine tree_det (by rfl) _ (by rfl) (fun W hW => by go_simp; (try simp (disch := omega) only [IntWalk.i64_in]); try rfl) ?_; simp only [Act.put, List.setIfInBounds_toArray, List.set_cons_succ, List.set_cons_zero]) | (refine tree_skip (by rfl) (by rfl) ?_; simp only [Act.put, List.setIfInBounds_toArray, List.set_cons_succ, List.set_cons_zero]))
      refine tree_val _ (by rfl) (by rfl) 37 _ (fun W hW => by go_simp; try rfl) (fun W hE hF => by exact HHK.out W (bgo HB1.out (bgo HB.out.1 (Ext.below (show Ext [] wr W from hE))))) ?_
      simp only [Act.put, List.setIfInBounds_toArray, List.set_cons_succ, List.set_cons_zero]
      repeat (first | (refine tree_det (by rfl) _ (by rfl) (fun W hW => by go_simp; (try simp (disch := omega) only [IntWalk.i64_in]); try rfl) ?_; simp only [Act.put, List.setIfInBounds_toArray, List.set_cons_succ, List.set_cons_zero]) | (refine tree_skip (by rfl) (by rfl) ?_; simp only [Act.put, List.setIfInBounds_toArray, List.set_cons_succ, List.set_cons_zero]))
      refine tree_val _ (by rfl) (by rfl) 43 _ (fun W hW => by go_simp; try rfl) (fun W hE hF => by exact by have := In_any m h.die h.burn W; rw [HIB.out] at this; exact this) ?_
      simp only [Act.put, List.setIfInBounds_toArray, List.set_cons_succ, List.set_cons_zero]
      repeat (first | (refine tree_det (by rfl) _ (by rfl) (fun W hW => by go_simp; (try simp (disch := omega) only [IntWalk.i64_in]); try rfl) ?_; simp only [Act.put, List.setIfInBounds_toArray, List.set_cons_succ, List.set_cons_zero]) | (refine tree_skip (by rfl) (by rfl) ?_; simp only [Act.put, List.setIfInBounds_toArray, List.set_cons_succ, List.set_cons_zero]))
      intro W3 hE hF
      have HE := Lib.hid (show Ext [] wr W3 from hE)
      clear hE hF hc0 hc1
      go_wp2_with fail
      go_roundw
      case rel =>
        refine ⟨k + 1, by omega, by go_num, bgo HB.out.1 HE.out.below, fun j hj => ?_⟩
        by_cases e : j = k
        · subst e
          show inB (heatAt h.size h.cool turns t.1 t.2 (j + 1)) h.die h.burn = true
          rw [HM.out]; exact HIB.out
        · exact HB.out.2 j (by omega)
      case measure => simp [intOf]; omega

set_option maxHeartbeats 2000000 in
theorem refKeeps_any (h : HeapD) (wv tv xv' ev rv' : Value) (es : List TE) (turns : List Int) (w : World) (hw : PairsAt w wv h.wet) (ht : IntsAt w tv h.turns) (hx : TriplesAt w xv' h.readings)
    (hev : TEAt w ev es) (hes : ∀ e ∈ es, IntsAt w e.2.1 e.2.2) (hok : ∀ e ∈ es, HeatOk h (teP e) ∧ (h.last + 1).toNat ≤ e.2.2.length) (h0 : 0 ≤ h.last) (h9 : h.last ≤ 9) (hr : IntsAt w rv' turns) :
    Calls Try.prog 51 #[hv h wv tv xv', ev, rv'] w (PV (iv (keepsR h turns (es.map teP))) w) := by
  have hle := hev.len
  obtain ⟨ow, cw, rfl⟩ := hw.open
  obtain ⟨ot, ct, rfl⟩ := ht.open
  obtain ⟨ox, cx, rfl⟩ := hx.open
  have HW := Lib.hid hw
  have HT := Lib.hid ht
  have HX := Lib.hid hx
  clear hw ht hx
  obtain ⟨oe, ce, rfl⟩ := TEAt.open hev
  obtain ⟨or, cr, rfl⟩ := hr.open
  have HEV := Lib.hid hev
  have HES := Lib.hid hes
  have HOK := Lib.hid hok
  have HR := Lib.hid hr
  obtain ⟨C, hC⟩ : ∃ C : Nat → Nat, (fun k => (es.take k).countP fun e => keptR h turns (teP e)) = C := ⟨_, rfl⟩
  have HC0 : Hid (C 0 = 0) := Lib.hid (by rw [← hC]; simp)
  have HCS : Hid (∀ k (hk : k < es.length), C (k + 1) = if keptR h turns (teP es[k]) then C k + 1 else C k) := Lib.hid (fun k hk => by
    rw [← hC]
    show (es.take (k + 1)).countP _ = _
    rw [List.take_succ_eq_append_getElem hk, List.countP_append, List.countP_singleton]
    split <;> rfl)
  have HCL : Hid (∀ k, C k ≤ k) := Lib.hid (fun k => by
    rw [← hC]
    exact Nat.le_trans List.countP_le_length (by rw [List.length_take]; omega))
  obtain ⟨V, hV⟩ : ∃ V, keepsR h turns (es.map teP) = V := ⟨_, rfl⟩
  have HV : Hid (V = if C es.length = es.length then 1 else if C es.length = 0 then 2 else 3) := Lib.hid (by
    rw [← hV, ← hC]
    unfold keepsR
    simp only [List.countP_map, List.length_map, List.take_length]
    rfl)
  rw [hV]
  clear hev hes hok hr hC hV
  go_enter Try.func51, Try.ntmps51
  go_wp2_with fail
  refine gworld fun W1 hW1 => ?_
  have HB1 := Lib.hid (show Below w.heap.size w W1 from by rw [hW1]; exact (by repeat (first | exact Below.refl _ _ | assumption | refine bgo ?_ (by assumption) | refine bgoAlloc ?_ _ | refine bgoDrew ?_ | refine bgoSet ?_ (by simp; omega) _)))
  have HX1 := Lib.hid (show W1.heap[w.heap.size]? = some (.cells #[.int .i64 h.last, .int .i64 h.size, .int .i64 h.cool, .int .i64 h.die, .int .i64 h.burn, .int .i64 h.start.1, .int .i64 h.start.2, .slice ow h.wet.length cw, .slice ot h.turns.length ct, .slice ox h.readings.length cx] 28 (0, 0)) from by rw [hW1]; exact heap_new0 _ _)
  clear hW1
  go_loopw [7, 8] (fun m u wr => ∃ k : Nat, k ≤ es.length ∧ m = .int .i64 (C k) ∧ u = .int .i64 k ∧ Below W1.heap.size W1 wr) (fun _ u _ => es.length - (intOf u).toNat)
  case atStart => exact ⟨0, Nat.zero_le _, by rw [HC0.out]; rfl, rfl, Below.refl _ _⟩
  case round =>
    obtain ⟨k, hk, rfl, rfl, hB⟩ := hrel
    have HB := Lib.hid hB
    obtain ⟨hc0, _, hs0⟩ := cells_of_block ((hB.block _ (cells_of_block HX1.out).2.2).trans HX1.out)
    clear hB
    obtain ⟨n, hn⟩ : ∃ n, C k = n := ⟨_, rfl⟩
    have hnk : n ≤ k := by rw [← hn]; exact HCL.out k
    by_cases hlt : k < es.length
    case neg =>
      obtain rfl : k = es.length := by omega
      have HVN : Hid (V = if n = es.length then 1 else if n = 0 then 2 else 3) := Lib.hid (by rw [← hn]; exact HV.out)
      rw [hn]
      clear hn
      by_cases h1 : n = es.length
      · have h1b : ((n : Int) == (es.length : Int)) = true := by simp [h1]
        obtain rfl : V = 1 := by rw [HVN.out, if_pos h1]
        clear h1
        go_wp2_with fail
        go_returns
        exact ⟨by simp, bgo HB1.out HB.out⟩
      · have h1b : ((n : Int) == (es.length : Int)) = false := by rw [beq_eq_false_iff_ne]; omega
        by_cases h2 : n = 0
        · obtain rfl : V = 2 := by rw [HVN.out, if_neg h1, if_pos h2]
          subst h2
          clear h1
          go_wp2_with fail
          go_returns
          exact ⟨by simp, bgo HB1.out HB.out⟩
        · have h2b : ((n : Int) == 0) = false := by rw [beq_eq_false_iff_ne]; omega
          obtain rfl : V = 3 := by rw [HVN.out, if_neg h1, if_neg h2]
          clear h1 h2
          go_wp2_with fail
          go_returns
          exact ⟨by simp, bgo HB1.out HB.out⟩
    have hltI : (k : Int) < es.length := by omega
    obtain ⟨b, off, rfl, hb, d1, d2⟩ := TEAt.cell (SlAt.below (SlAt.below HEV.out HB1.out (Nat.le_refl _)) HB.out (Nat.le_refl _)) hlt
    have HNX := Lib.hid (HCS.out k hlt)
    have hee := HES.out _ (List.getElem_mem hlt)
    have hoo := HOK.out _ (List.getElem_mem hlt)
    generalize es[k] = e at *
    obtain ⟨start, ve, wet⟩ := e
    obtain ⟨o3, c3, rfl⟩ := SlAt.open (show IntsAt w ve wet from hee)
    have HH := Lib.hid (fun (W : World) (hW : Below w.heap.size w W) => Kept_any h ow ot ox h.wet.length cw h.turns.length ct h.readings.length cx (start, wet) hoo.1 (.slice o3 wet.length c3) (.slice or turns.length cr) turns W (SlAt.below (show IntsAt w (.slice o3 wet.length c3) wet from hee) hW (Nat.le_refl _)) (HR.out.below hW (Nat.le_refl _)) hoo.2 h0 h9)
    obtain ⟨q, hq⟩ : ∃ q, keptR h turns (start, wet) = q := ⟨_, rfl⟩
    rw [hq] at HH
    have HN2 : Hid (C (k + 1) = if q then n + 1 else n) := Lib.hid (by rw [HNX.out, ← hq, hn]; rfl)
    rw [hn]
    clear HNX hee hoo hq hn
    cases q
    · have HN3 : Hid (C (k + 1) = n) := Lib.hid HN2.out
      go_wp2_with fail
      refine wp_region_rg 7 [] none [(6, Spec.val (.bool false))] (by kernel_rfl) (by kernel_rfl) ?_
      simp only [List.take_succ_cons, List.take_zero, List.drop_succ_cons, List.drop_zero]
      repeat (first | (refine tree_det (by rfl) _ (by rfl) (fun W hW => by go_simp; (try simp (disch := omega) only [IntWalk.i64_in]); try rfl) ?_; simp only [Act.put, List.setIfInBounds_toArray, List.set_cons_succ, List.set_cons_zero]) | (refine tree_skip (by rfl) (by rfl) ?_; simp only [Act.put, List.setIfInBounds_toArray, List.set_cons_succ, List.set_cons_zero]))
      refine tree_val _ (by rfl) (by rfl) 89 _ (fun W hW => by go_simp; try rfl) (fun W hE hF => by exact HH.out W (bgo HB1.out (bgo HB.out (Ext.below (show Ext [] wr W from hE))))) ?_
      simp only [Act.put, List.setIfInBounds_toArray, List.set_cons_succ, List.set_cons_zero]
      repeat (first | (refine tree_det (by rfl) _ (by rfl) (fun W hW => by go_simp; (try simp (disch := omega) only [IntWalk.i64_in]); try rfl) ?_; simp only [Act.put, List.setIfInBounds_toArray, List.set_cons_succ, List.set_cons_zero]) | (refine tree_skip (by rfl) (by rfl) ?_; simp only [Act.put, List.setIfInBounds_toArray, List.set_cons_succ, List.set_cons_zero]))
      intro W3 hE hF
      have HE := Lib.hid (show Ext [] wr W3 from hE)
      clear hE hF hc0
      go_wp2_with fail
      go_roundw
      case rel => exact ⟨k + 1, by omega, by rw [HN3.out], by go_num, bgo HB.out HE.out.below⟩
      case measure => simp [intOf]; omega
    · have HN3 : Hid (C (k + 1) = n + 1) := Lib.hid HN2.out
      go_wp2_with fail
      refine wp_region_rg 7 [] none [(6, Spec.val (.bool true))] (by kernel_rfl) (by kernel_rfl) ?_
      simp only [List.take_succ_cons, List.take_zero, List.drop_succ_cons, List.drop_zero]
      repeat (first | (refine tree_det (by rfl) _ (by rfl) (fun W hW => by go_simp; (try simp (disch := omega) only [IntWalk.i64_in]); try rfl) ?_; simp only [Act.put, List.setIfInBounds_toArray, List.set_cons_succ, List.set_cons_zero]) | (refine tree_skip (by rfl) (by rfl) ?_; simp only [Act.put, List.setIfInBounds_toArray, List.set_cons_succ, List.set_cons_zero]))
      refine tree_val _ (by rfl) (by rfl) 89 _ (fun W hW => by go_simp; try rfl) (fun W hE hF => by exact HH.out W (bgo HB1.out (bgo HB.out (Ext.below (show Ext [] wr W from hE))))) ?_
      simp only [Act.put, List.setIfInBounds_toArray, List.set_cons_succ, List.set_cons_zero]
      repeat (first | (refine tree_det (by rfl) _ (by rfl) (fun W hW => by go_simp; (try simp (disch := omega) only [IntWalk.i64_in]); try rfl) ?_; simp only [Act.put, List.setIfInBounds_toArray, List.set_cons_succ, List.set_cons_zero]) | (refine tree_skip (by rfl) (by rfl) ?_; simp only [Act.put, List.setIfInBounds_toArray, List.set_cons_succ, List.set_cons_zero]))
      intro W3 hE hF
      have HE := Lib.hid (show Ext [] wr W3 from hE)
      clear hE hF hc0
      go_wp2_with fail
      go_roundw
      case rel => exact ⟨k + 1, by omega, by rw [HN3.out]; go_num, by go_num, bgo HB.out HE.out.below⟩
      case measure => simp [intOf]; omega

end Go.Proofs.Ytoibfafmnaooaaa
