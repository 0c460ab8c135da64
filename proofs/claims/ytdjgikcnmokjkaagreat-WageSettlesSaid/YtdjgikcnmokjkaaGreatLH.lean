/-
  The walk of WageSettles.
-/
import Derived.WalkKit
import Derived.WalkLawsBesides
import Derived.WalkSpells
import Derived.Outline
import Derived.Handy
import Derived.KernelRfl
import Derived.Lib.Hide
import Derived.BigRegion
import Derived.Deep.Cut
import Derived.Test.YtdjgikcnmokjkaaGreatZK
import Derived.Test.YtdjgikcnmokjkaaGreatZL
import Derived.Test.YtdjgikcnmokjkaaGreatKF
namespace Go.Proofs.YtdjgikcnmokjkaaGreat
open Go.RowKit Go.RG Go.SL Go.Shelf Cou Go.TB
set_option maxHeartbeats 400000
set_option maxRecDepth 10000

/-- What the law needs. -/
theorem settles_plain {l : LedgerD} (h : faultW l = 0) (rows : List Int) : (isTurns (l.field.rows - 1) rows = true → proveSettleB l rows = settlesAll l.field (bitsL (ofBits rows)) ∧ ofBits rows < 2 ^ l.field.rows.toNat) ∧ (isTurns (l.field.rows - 1) rows = false → proveSettleB l rows = false) := by
  have hS := (faultW_sound h).1
  have hF := soundF_of hS.field
  have hr := hF.rows0
  have e := turns_inc (last := l.field.rows - 1) (by omega) rows
  rw [show (l.field.rows - 1 + 1).toNat = l.field.rows.toNat from by congr 1; omega] at e
  refine ⟨fun ht => ?_, fun ht => ?_⟩
  · have hi := e.1 ht
    refine ⟨?_, ofBits_lt hi⟩
    unfold proveSettleB
    rw [h, settlesLB_eq hS hi, bits_ofBits hi]
    rfl
  · unfold proveSettleB settlesLB
    rw [h]
    have hw := hF.weed0
    have : ((List.range l.field.weeders.toNat).all fun (i : Nat) => proveAskB l.field (i : Int) rows) = false := by
      rw [List.all_eq_false]
      refine ⟨0, List.mem_range.2 (by omega), ?_⟩
      unfold proveAskB
      rw [ht]
      simp
    rw [this]
    rfl

set_option maxHeartbeats 8000000 in
theorem WageSettles_any (l : LedgerD) (tv nv rvv : Value) (rows : List Int) (w : World) (ht : TalliesAt w tv l.field.tallies) (hn : TriplesAt w nv l.notes) (hr : IntsAt w rvv rows) :
    Calls Tryz.prog 8 #[lv l tv nv, rvv] w (PV (.bool true) w) := by
  obtain ⟨orw, crw, rfl⟩ := hr.open
  have hrl := hr.len
  have HRW := Lib.hid hr
  clear hr
  have HA := Lib.hid (And.intro ht hn)
  have HR := Lib.hid (zThin_any l tv nv (w.alloc (.cells (lcells l tv nv) 30)) (ht.alloc _) (hn.alloc _))
  obtain ⟨on, cn, rfl⟩ := hn.open
  clear ht hn
  obtain ⟨rd, hrd⟩ : ∃ rd, thinL l = rd := ⟨_, rfl⟩
  rw [hrd] at HR
  have HRD := Lib.hid hrd
  clear hrd
  go_enter Tryz.func8, Tryz.ntmps8
  go_wp2_with fail
  refine HR.out.mono ?_
  rintro e W1 ⟨rfl, hb⟩
  have hk0 := (hb.block w.heap.size (by simp)).trans (heap_new0 w (.cells (lcells l tv (.slice on l.notes.length cn)) 30))
  have HB1 := Lib.hid (And.intro (show Below w.heap.size w W1 from (by repeat (first | exact Below.refl _ _ | assumption | refine bgo ?_ (by assumption) | refine bgoAlloc ?_ _ | refine bgoDrew ?_ | refine bgoSet ?_ (by simp; omega) _))) hk0)
  obtain ⟨c0, f0, l0⟩ := cells_of_block hk0
  clear hb hk0
  cases rd
  · clear c0 f0 l0
    go_wp2_with fail
    refine (awake_any _).mono ?_
    rintro e W2 ⟨rfl, hb⟩
    have HB2 := Lib.hid (bgo HB1.out.1 hb)
    clear hb
    go_wp2_with fail
    go_returns
    exact ⟨by simp, HB2.out⟩
  have HK1 := Lib.hid (Keeps.one HB1.out.1 HB1.out.2)
  obtain ⟨ht7, hn7⟩ := thin_facts HRD.out
  have HM := Lib.hid (And.intro ht7 hn7)
  clear ht7
  by_cases h9 : 9 < rows.length
  · have h9I : (rows.length : Int) > 9 := by omega
    go_wp2_with fail
    refine (awake_any _).mono ?_
    rintro e W2 ⟨rfl, hb⟩
    have HB2 := Lib.hid (bgo HK1.out.below hb)
    clear hb
    go_wp2_with fail
    go_returns
    exact ⟨by simp, HB2.out⟩
  have h9I : ¬ (rows.length : Int) > 9 := by omega
  obtain ⟨q, hq⟩ : ∃ q, faultW l = q := ⟨_, rfl⟩
  have HQ := Lib.hid hq
  clear hq
  by_cases hq0 : q = 0
  case neg =>
    have hqb : (q != 0) = true := by simpa using hq0
    have hqq : (q == q) = true := by simp
    have HQ0 := Lib.hid hq0
    have HPF := Lib.hid (show proveSettleB l rows = false from by unfold proveSettleB; rw [HQ.out]; simp [hq0])
    clear hq0
    go_wp2_with fail
    clear h9I
    refine (Ledger_any (l) (tv) (.slice on l.notes.length cn) W1 (HA.out.1.below HK1.out.below (Nat.le_refl _)) (HA.out.2.below HK1.out.below (Nat.le_refl _)) (by have := HM.out.1; omega) (by have := HM.out.2; omega)).mono ?_
    rintro e W2 ⟨a2, b2, rfl, ht2, hn2, hb⟩
    have HL2 := Lib.hid (And.intro ht2 hn2)
    clear ht2 hn2
    have HK2 := Lib.hid (HK1.out.next hb)
    clear hb
    (try clear c0 f0)
    obtain ⟨c0, f0, l0⟩ := cells_of_block HK2.out.blk
    go_wp2_with fail
    refine (Settle_any l a2 b2 W2 HL2.out.1 HL2.out.2).mono ?_
    rintro e W3 ⟨hb, ⟨_, rfl⟩ | ⟨h0, _⟩⟩
    case inr => exact absurd (HQ.out.symm.trans h0) HQ0.out
    rw [HQ.out]
    have HK3 := Lib.hid (HK2.out.next hb)
    clear hb
    (try clear c0 f0)
    obtain ⟨c0, f0, l0⟩ := cells_of_block HK3.out.blk
    go_wp2_with fail
    refine (Ledger_any (l) (tv) (.slice on l.notes.length cn) W3 (HA.out.1.below HK3.out.below (Nat.le_refl _)) (HA.out.2.below HK3.out.below (Nat.le_refl _)) (by have := HM.out.1; omega) (by have := HM.out.2; omega)).mono ?_
    rintro e W4 ⟨a4, b4, rfl, ht4, hn4, hb⟩
    have HL4 := Lib.hid (And.intro ht4 hn4)
    clear ht4 hn4
    have HK4 := Lib.hid (HK3.out.next hb)
    clear hb
    (try clear c0 f0)
    obtain ⟨c0, f0, l0⟩ := cells_of_block HK4.out.blk
    go_wp2_with fail
    refine (list_any rows (.slice orw rows.length crw) W4 (HRW.out.below HK4.out.below (Nat.le_refl _)) (by omega)).mono ?_
    rintro e W5 ⟨v5, rfl, ho5, hb⟩
    obtain ⟨uo5, uc5, rfl⟩ := owns_slice ho5
    have HPS := Lib.hid (ProveSettle_any l a4 b4 (.slice uo5 rows.length uc5) rows W5 (HL4.out.1.below hb (Nat.le_refl _)) (HL4.out.2.below hb (Nat.le_refl _)) (SlAt.of_owns ho5))
    rw [HPF.out] at HPS
    clear ho5
    have HK5 := Lib.hid (HK4.out.next hb)
    clear hb
    (try clear c0 f0)
    obtain ⟨c0, f0, l0⟩ := cells_of_block HK5.out.blk
    go_wp2_with fail
    refine HPS.out.mono ?_
    rintro e W6 ⟨rfl, hb⟩
    clear HPS
    have HK6 := Lib.hid (HK5.out.next hb)
    clear hb
    (try clear c0 f0)
    obtain ⟨c0, f0, l0⟩ := cells_of_block HK6.out.blk
    go_wp2_with fail
    refine (zfault_any l tv (.slice on l.notes.length cn) W6 (HA.out.1.below HK6.out.below (Nat.le_refl _)) (HA.out.2.below HK6.out.below (Nat.le_refl _))).mono ?_
    rintro e W7 ⟨rfl, hb⟩
    rw [HQ.out]
    have HK7 := Lib.hid (HK6.out.next hb)
    clear hb
    (try clear c0 f0)
    obtain ⟨c0, f0, l0⟩ := cells_of_block HK7.out.blk
    go_wp2_with fail
    refine (awake_any _).mono ?_
    rintro e W8 ⟨rfl, hb⟩
    have HB8 := Lib.hid (bgo HK7.out.below hb)
    clear hb
    go_wp2_with fail
    go_returns
    exact ⟨by simp, HB8.out⟩
  subst hq0
  obtain ⟨hS, hpo⟩ := faultW_sound HQ.out
  have hF := soundF_of hS.field
  have HS := Lib.hid (And.intro hS (And.intro hpo hF))
  obtain ⟨X, hX⟩ : ∃ X, settleF l.field = X := ⟨_, rfl⟩
  obtain ⟨is, his⟩ : ∃ is, proveSettleB l rows = is := ⟨_, rfl⟩
  have hpl := settles_plain HQ.out rows
  rw [his] at hpl
  obtain ⟨ri, hri⟩ : ∃ ri, isTurns (l.field.rows - 1) rows = ri := ⟨_, rfl⟩
  have HISR := Lib.hid (fun (W : World) (h : IntsAt W (.slice orw rows.length crw) rows) => rIsRows_gen l.field hF.rows0 hF.rows1 tv (.slice orw rows.length crw) rows (by omega) W h)
  rw [hri] at hpl HISR
  have HP := Lib.hid (And.intro hX (And.intro his hpl))
  clear hS hpo hF hX his hpl hri
  go_wp2_with fail
  clear h9I
  refine (Ledger_any (l) (tv) (.slice on l.notes.length cn) W1 (HA.out.1.below HK1.out.below (Nat.le_refl _)) (HA.out.2.below HK1.out.below (Nat.le_refl _)) (by have := HM.out.1; omega) (by have := HM.out.2; omega)).mono ?_
  rintro e W2 ⟨a2, b2, rfl, ht2, hn2, hb⟩
  have HL2 := Lib.hid (And.intro ht2 hn2)
  clear ht2 hn2
  have HK2 := Lib.hid (HK1.out.next hb)
  clear hb
  (try clear c0 f0)
  obtain ⟨c0, f0, l0⟩ := cells_of_block HK2.out.blk
  go_wp2_with fail
  refine (Settle_any l a2 b2 W2 HL2.out.1 HL2.out.2).mono ?_
  rintro e W3 ⟨hb, ⟨hne, _⟩ | ⟨_, u3, rfl, hu3⟩⟩
  · exact absurd HQ.out hne
  rw [HP.out.1] at hu3
  obtain ⟨uo3, uc3, rfl⟩ := hu3.open
  have HU3 := Lib.hid hu3
  clear hu3
  have HK3 := Lib.hid (HK2.out.next hb)
  clear hb
  (try clear c0 f0)
  obtain ⟨c0, f0, l0⟩ := cells_of_block HK3.out.blk
  have HK3 := Lib.hid (HK3.out.add (T := fun W => IntsAt W (.slice uo3 X.length uc3) X) HU3.out (last_at HU3.out))
  go_wp2_with fail
  refine (Ledger_any (l) (tv) (.slice on l.notes.length cn) W3 (HA.out.1.below HK3.out.below (Nat.le_refl _)) (HA.out.2.below HK3.out.below (Nat.le_refl _)) (by have := HM.out.1; omega) (by have := HM.out.2; omega)).mono ?_
  rintro e W4 ⟨a4, b4, rfl, ht4, hn4, hb⟩
  have HL4 := Lib.hid (And.intro ht4 hn4)
  clear ht4 hn4
  have HK4 := Lib.hid (HK3.out.next hb)
  clear hb
  (try clear c0 f0)
  obtain ⟨c0, f0, l0⟩ := cells_of_block HK4.out.blk
  go_wp2_with fail
  refine (list_any rows (.slice orw rows.length crw) W4 (HRW.out.below HK4.out.below (Nat.le_refl _)) (by omega)).mono ?_
  rintro e W5 ⟨v5, rfl, ho5, hb⟩
  obtain ⟨uo5, uc5, rfl⟩ := owns_slice ho5
  have HPS := Lib.hid (ProveSettle_any l a4 b4 (.slice uo5 rows.length uc5) rows W5 (HL4.out.1.below hb (Nat.le_refl _)) (HL4.out.2.below hb (Nat.le_refl _)) (SlAt.of_owns ho5))
  rw [HP.out.2.1] at HPS
  clear ho5
  have HK5 := Lib.hid (HK4.out.next hb)
  clear hb
  (try clear c0 f0)
  obtain ⟨c0, f0, l0⟩ := cells_of_block HK5.out.blk
  go_wp2_with fail
  refine HPS.out.mono ?_
  rintro e W6 ⟨rfl, hb⟩
  clear HPS
  have HK6 := Lib.hid (HK5.out.next hb)
  clear hb
  (try clear c0 f0)
  obtain ⟨c0, f0, l0⟩ := cells_of_block HK6.out.blk
  go_wp2_with fail
  refine (zfault_any l tv (.slice on l.notes.length cn) W6 (HA.out.1.below HK6.out.below (Nat.le_refl _)) (HA.out.2.below HK6.out.below (Nat.le_refl _))).mono ?_
  rintro e W7 ⟨rfl, hb⟩
  rw [HQ.out]
  have HK7 := Lib.hid (HK6.out.next hb)
  clear hb
  (try clear c0 f0)
  obtain ⟨c0, f0, l0⟩ := cells_of_block HK7.out.blk
  go_wp2_with fail
  refine (rTruths_any l.field HS.out.2.2 tv W7 (HA.out.1.below HK7.out.below (Nat.le_refl _))).mono ?_
  rintro e W8 ⟨ev, es, rfl, hes, hmap, hb⟩
  obtain ⟨eo, ec, rfl⟩ := hes.1.open
  have HES := Lib.hid (And.intro hes hmap)
  have hel := hes.1.len
  clear hes hmap
  have HK8 := Lib.hid (HK7.out.next hb)
  clear hb
  (try clear c0 f0)
  obtain ⟨c0, f0, l0⟩ := cells_of_block HK8.out.blk
  have HK8 := Lib.hid (HK8.out.add (T := fun W => ListsAt W (.slice eo es.length ec) es) HES.out.1 (last_lists HES.out.1))
  go_wp2_with fail
  refine (HISR.out W8 (HRW.out.below HK8.out.below (Nat.le_refl _))).mono ?_
  rintro e W9 ⟨rfl, hb⟩
  have HK9 := Lib.hid (HK8.out.next hb)
  clear hb
  (try clear c0 f0)
  obtain ⟨c0, f0, l0⟩ := cells_of_block HK9.out.blk
  cases ri
  · obtain rfl : is = false := HP.out.2.2.2 (by trivial)
    rw [if_neg (by simp)]
    go_wp2_with fail
    refine (zSettle_any HS.out.1 tv (.slice on l.notes.length cn) (.slice eo es.length ec) es W9 HK9.out.is.1 HES.out.2).mono ?_
    rintro e W10 ⟨v10, rfl, hv10, hb⟩
    rw [HP.out.1] at hv10
    obtain ⟨uo10, uc10, rfl⟩ := hv10.open
    have HV10 := Lib.hid hv10
    clear hv10
    have HK10 := Lib.hid (HK9.out.next hb)
    clear hb
    (try clear c0 f0)
    obtain ⟨c0, f0, l0⟩ := cells_of_block HK10.out.blk
    have HSM := Lib.hid (same_any X X (.slice uo3 X.length uc3) (.slice uo10 X.length uc10) W10 HK10.out.is.2.1 HV10.out)
    rw [show (X == X) = true from by simp] at HSM
    go_wp2_with fail
    refine HSM.out.mono ?_
    rintro e Wy ⟨rfl, hb⟩
    have HKY := Lib.hid (HK10.out.next hb)
    clear hb c0 f0
    go_wp2_with fail
    refine (awake_any _).mono ?_
    rintro e Wz ⟨rfl, hb⟩
    have HBZ := Lib.hid (bgo HKY.out.below hb)
    clear hb
    go_wp2_with fail
    go_returns
    exact ⟨by simp, HBZ.out⟩
  · obtain ⟨e1, e2⟩ := HP.out.2.2.1 (by trivial)
    rw [if_pos rfl]
    have HSE := Lib.hid (zSettles_any HS.out.1 tv (.slice on l.notes.length cn) (.slice eo es.length ec) es (ofBits rows) W9 HK9.out.is.1 HES.out.2 e2)
    rw [← e1] at HSE
    have hisis : (is == is) = true := by simp
    clear e1 e2
    generalize ofBits rows = ob at *
    go_wp2_with fail
    refine HSE.out.mono ?_
    rintro e W10 ⟨rfl, hb⟩
    clear HSE
    have HK10 := Lib.hid (HK9.out.next hb)
    clear hb
    (try clear c0 f0)
    obtain ⟨c0, f0, l0⟩ := cells_of_block HK10.out.blk
    go_wp2_with fail
    refine (zSettle_any HS.out.1 tv (.slice on l.notes.length cn) (.slice eo es.length ec) es W10 HK10.out.is.1 HES.out.2).mono ?_
    rintro e W11 ⟨v11, rfl, hv11, hb⟩
    rw [HP.out.1] at hv11
    obtain ⟨uo11, uc11, rfl⟩ := hv11.open
    have HV11 := Lib.hid hv11
    clear hv11
    have HK11 := Lib.hid (HK10.out.next hb)
    clear hb
    (try clear c0 f0)
    obtain ⟨c0, f0, l0⟩ := cells_of_block HK11.out.blk
    have HSM := Lib.hid (same_any X X (.slice uo3 X.length uc3) (.slice uo11 X.length uc11) W11 HK11.out.is.2.1 HV11.out)
    rw [show (X == X) = true from by simp] at HSM
    go_wp2_with fail
    refine HSM.out.mono ?_
    rintro e Wy ⟨rfl, hb⟩
    have HKY := Lib.hid (HK11.out.next hb)
    clear hb c0 f0
    go_wp2_with fail
    refine (awake_any _).mono ?_
    rintro e Wz ⟨rfl, hb⟩
    have HBZ := Lib.hid (bgo HKY.out.below hb)
    clear hb
    go_wp2_with fail
    go_returns
    exact ⟨by simp, HBZ.out⟩
end Go.Proofs.YtdjgikcnmokjkaaGreat
