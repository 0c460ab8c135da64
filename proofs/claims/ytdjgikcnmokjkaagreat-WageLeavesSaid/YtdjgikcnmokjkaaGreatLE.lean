/-
  The walk of WageLeaves.
-/
import Derived.WalkKit
import Derived.WalkLawsBesides
import Derived.WalkSpells
import Derived.Outline
import Derived.Handy
import Derived.KernelRfl
import Derived.Lib.Hide
import Derived.BigRegion
import Derived.Deep.Cut
import Derived.Test.YtdjgikcnmokjkaaGreatZM
import Derived.Test.YtdjgikcnmokjkaaGreatKF
namespace Go.Proofs.YtdjgikcnmokjkaaGreat
open Go.RowKit Go.RG Go.SL Go.Shelf Cou Go.TB
set_option maxHeartbeats 400000
set_option maxRecDepth 10000

set_option maxHeartbeats 8000000 in
theorem WageLeaves_any (l : LedgerD) (tv nv : Value) (w : World) (ht : TalliesAt w tv l.field.tallies) (hn : TriplesAt w nv l.notes) :
    Calls Tryz.prog 4 #[lv l tv nv] w (PV (.bool true) w) := by
  have HA := Lib.hid (And.intro ht hn)
  have HR := Lib.hid (zThin_any l tv nv (w.alloc (.cells (lcells l tv nv) 30)) (ht.alloc _) (hn.alloc _))
  obtain ⟨on, cn, rfl⟩ := hn.open
  clear ht hn
  obtain ⟨rd, hrd⟩ : ∃ rd, thinL l = rd := ⟨_, rfl⟩
  rw [hrd] at HR
  have HRD := Lib.hid hrd
  clear hrd
  go_enter Tryz.func4, Tryz.ntmps4
  go_wp2_with fail
  refine HR.out.mono ?_
  rintro e W1 ⟨rfl, hb⟩
  have hk0 := (hb.block w.heap.size (by simp)).trans (heap_new0 w (.cells (lcells l tv (.slice on l.notes.length cn)) 30))
  have HB1 := Lib.hid (And.intro (show Below w.heap.size w W1 from (by repeat (first | exact Below.refl _ _ | assumption | refine bgo ?_ (by assumption) | refine bgoAlloc ?_ _ | refine bgoDrew ?_ | refine bgoSet ?_ (by simp; omega) _))) hk0)
  obtain ⟨c0, f0, l0⟩ := cells_of_block hk0
  clear hb hk0
  cases rd
  · clear c0 f0 l0
    go_wp2_with fail
    refine (awake_any _).mono ?_
    rintro e W2 ⟨rfl, hb⟩
    have HB2 := Lib.hid (bgo HB1.out.1 hb)
    clear hb
    go_wp2_with fail
    go_returns
    exact ⟨by simp, HB2.out⟩
  have HK1 := Lib.hid (Keeps.one HB1.out.1 HB1.out.2)
  obtain ⟨ht7, hn7⟩ := thin_facts HRD.out
  have HM := Lib.hid (And.intro ht7 hn7)
  clear ht7
  obtain ⟨q, hq⟩ : ∃ q, faultW l = q := ⟨_, rfl⟩
  have HQ := Lib.hid hq
  clear hq
  by_cases hq0 : q = 0
  case neg =>
    have hqb : (q != 0) = true := by simpa using hq0
    have hqq : (q == q) = true := by simp
    have HQ0 := Lib.hid hq0
    clear hq0
    go_wp2_with fail
    refine (Ledger_any (l) (tv) (.slice on l.notes.length cn) W1 (HA.out.1.below HK1.out.below (Nat.le_refl _)) (HA.out.2.below HK1.out.below (Nat.le_refl _)) (by have := HM.out.1; omega) (by have := HM.out.2; omega)).mono ?_
    rintro e W2 ⟨a2, b2, rfl, ht2, hn2, hb⟩
    have HL2 := Lib.hid (And.intro ht2 hn2)
    clear ht2 hn2
    have HK2 := Lib.hid (HK1.out.next hb)
    clear hb
    (try clear c0 f0)
    obtain ⟨c0, f0, l0⟩ := cells_of_block HK2.out.blk
    go_wp2_with fail
    refine (First_any l a2 b2 W2 HL2.out.1 HL2.out.2).mono ?_
    rintro e W3 ⟨hb, ⟨_, rfl⟩ | ⟨h0, _⟩⟩
    case inr => exact absurd (HQ.out.symm.trans h0) HQ0.out
    rw [HQ.out]
    have HK3 := Lib.hid (HK2.out.next hb)
    clear hb
    (try clear c0 f0)
    obtain ⟨c0, f0, l0⟩ := cells_of_block HK3.out.blk
    go_wp2_with fail
    refine (Ledger_any (l) (tv) (.slice on l.notes.length cn) W3 (HA.out.1.below HK3.out.below (Nat.le_refl _)) (HA.out.2.below HK3.out.below (Nat.le_refl _)) (by have := HM.out.1; omega) (by have := HM.out.2; omega)).mono ?_
    rintro e W4 ⟨a4, b4, rfl, ht4, hn4, hb⟩
    have HL4 := Lib.hid (And.intro ht4 hn4)
    clear ht4 hn4
    have HK4 := Lib.hid (HK3.out.next hb)
    clear hb
    (try clear c0 f0)
    obtain ⟨c0, f0, l0⟩ := cells_of_block HK4.out.blk
    go_wp2_with fail
    refine (Leave_any l a4 b4 W4 HL4.out.1 HL4.out.2).mono ?_
    rintro e W5 ⟨hb, ⟨_, rfl⟩ | ⟨h0, _⟩⟩
    case inr => exact absurd (HQ.out.symm.trans h0) HQ0.out
    rw [HQ.out]
    have HK5 := Lib.hid (HK4.out.next hb)
    clear hb
    (try clear c0 f0)
    obtain ⟨c0, f0, l0⟩ := cells_of_block HK5.out.blk
    go_wp2_with fail
    refine (zfault_any l tv (.slice on l.notes.length cn) W5 (HA.out.1.below HK5.out.below (Nat.le_refl _)) (HA.out.2.below HK5.out.below (Nat.le_refl _))).mono ?_
    rintro e W6 ⟨rfl, hb⟩
    rw [HQ.out]
    have HK6 := Lib.hid (HK5.out.next hb)
    clear hb
    (try clear c0 f0)
    obtain ⟨c0, f0, l0⟩ := cells_of_block HK6.out.blk
    go_wp2_with fail
    refine (awake_any _).mono ?_
    rintro e W7 ⟨rfl, hb⟩
    have HB7 := Lib.hid (bgo HK6.out.below hb)
    clear hb
    go_wp2_with fail
    go_returns
    exact ⟨by simp, HB7.out⟩
  subst hq0
  obtain ⟨hS, hpo⟩ := faultW_sound HQ.out
  have hF := soundF_of hS.field
  have HS := Lib.hid (And.intro hS (And.intro hpo hF))
  have hfv : (firstWv l = 0 ∧ firstWe l = 7 ∧ rfirstV l = -1) ∨ ∃ k : Nat, k < 8 ∧ firstWv l = k ∧ firstWe l = 0 ∧ rfirstV l = k := by
    cases hw : firstW l with
    | none => left; unfold firstWv firstWe rfirstV; rw [hw]; exact ⟨rfl, rfl, rfl⟩
    | some k =>
      right
      refine ⟨k, ?_, by unfold firstWv; rw [hw]; rfl, by unfold firstWe; rw [hw]; rfl, by unfold rfirstV; rw [hw]⟩
      unfold firstW at hw
      have := List.mem_range.1 (List.mem_of_find?_eq_some hw)
      have := hS.many
      omega
  obtain ⟨V1, hV1⟩ : ∃ V, firstWv l = V := ⟨_, rfl⟩
  obtain ⟨V2, hV2⟩ : ∃ V, firstWe l = V := ⟨_, rfl⟩
  obtain ⟨V3, hV3⟩ : ∃ V, rfirstV l = V := ⟨_, rfl⟩
  obtain ⟨L1, hL1⟩ : ∃ L, leaveW l = L := ⟨_, rfl⟩
  rw [hV1, hV2, hV3] at hfv
  have HV := Lib.hid (And.intro hV1 (And.intro hV2 (And.intro hV3 hL1)))
  have HFV := Lib.hid hfv
  clear hS hpo hF hfv hV1 hV2 hV3 hL1
  go_wp2_with fail
  refine (Ledger_any (l) (tv) (.slice on l.notes.length cn) W1 (HA.out.1.below HK1.out.below (Nat.le_refl _)) (HA.out.2.below HK1.out.below (Nat.le_refl _)) (by have := HM.out.1; omega) (by have := HM.out.2; omega)).mono ?_
  rintro e W2 ⟨a2, b2, rfl, ht2, hn2, hb⟩
  have HL2 := Lib.hid (And.intro ht2 hn2)
  clear ht2 hn2
  have HK2 := Lib.hid (HK1.out.next hb)
  clear hb
  (try clear c0 f0)
  obtain ⟨c0, f0, l0⟩ := cells_of_block HK2.out.blk
  go_wp2_with fail
  refine (First_any l a2 b2 W2 HL2.out.1 HL2.out.2).mono ?_
  rintro e W3 ⟨hb, ⟨hne, _⟩ | ⟨_, rfl⟩⟩
  · exact absurd HQ.out hne
  rw [HV.out.1, HV.out.2.1]
  have HK3 := Lib.hid (HK2.out.next hb)
  clear hb
  (try clear c0 f0)
  obtain ⟨c0, f0, l0⟩ := cells_of_block HK3.out.blk
  go_wp2_with fail
  refine (Ledger_any (l) (tv) (.slice on l.notes.length cn) W3 (HA.out.1.below HK3.out.below (Nat.le_refl _)) (HA.out.2.below HK3.out.below (Nat.le_refl _)) (by have := HM.out.1; omega) (by have := HM.out.2; omega)).mono ?_
  rintro e W4 ⟨a4, b4, rfl, ht4, hn4, hb⟩
  have HL4 := Lib.hid (And.intro ht4 hn4)
  clear ht4 hn4
  have HK4 := Lib.hid (HK3.out.next hb)
  clear hb
  (try clear c0 f0)
  obtain ⟨c0, f0, l0⟩ := cells_of_block HK4.out.blk
  go_wp2_with fail
  refine (Leave_any (l) a4 b4 W4 HL4.out.1 HL4.out.2).mono ?_
  rintro e W5 ⟨hb, ⟨hne, _⟩ | ⟨_, u5, rfl, hu5⟩⟩
  · exact absurd (HQ.out) hne
  rw [HV.out.2.2.2] at hu5
  obtain ⟨uo5, uc5, rfl⟩ := hu5.open
  have HU5 := Lib.hid hu5
  clear hu5
  have HK5 := Lib.hid (HK4.out.next hb)
  clear hb
  (try clear c0 f0)
  obtain ⟨c0, f0, l0⟩ := cells_of_block HK5.out.blk
  have HK5 := Lib.hid (HK5.out.add (show IntsAt W5 (.slice uo5 (L1).length uc5) (L1) from HU5.out) (last_at HU5.out))
  go_wp2_with fail
  refine (zfault_any l tv (.slice on l.notes.length cn) W5 (HA.out.1.below HK5.out.below (Nat.le_refl _)) (HA.out.2.below HK5.out.below (Nat.le_refl _))).mono ?_
  rintro e W6 ⟨rfl, hb⟩
  rw [HQ.out]
  have HK6 := Lib.hid (HK5.out.next hb)
  clear hb
  (try clear c0 f0)
  obtain ⟨c0, f0, l0⟩ := cells_of_block HK6.out.blk
  go_wp2_with fail
  refine (rTruths_any l.field HS.out.2.2 tv W6 (HA.out.1.below HK6.out.below (Nat.le_refl _))).mono ?_
  rintro e W7 ⟨ev, es, rfl, hes, hmap, hb⟩
  obtain ⟨eo, ec, rfl⟩ := hes.1.open
  have HES := Lib.hid (And.intro hes hmap)
  have hel := hes.1.len
  clear hes hmap
  have HK7 := Lib.hid (HK6.out.next hb)
  clear hb
  (try clear c0 f0)
  obtain ⟨c0, f0, l0⟩ := cells_of_block HK7.out.blk
  have HK7 := Lib.hid (HK7.out.add (T := fun W => ListsAt W (.slice eo es.length ec) es) HES.out.1 (last_lists HES.out.1))
  go_wp2_with fail
  refine (zLeave_any HS.out.1 HS.out.2.1 tv (.slice on l.notes.length cn) (.slice eo es.length ec) es W7 (HA.out.2.below HK7.out.below (Nat.le_refl _)) HK7.out.is.1 HES.out.2).mono ?_
  rintro e W8 ⟨v8, rfl, hv8, hb⟩
  rw [HV.out.2.2.2] at hv8
  obtain ⟨uo8, uc8, rfl⟩ := hv8.open
  have HV8 := Lib.hid hv8
  clear hv8
  have HK8 := Lib.hid (HK7.out.next hb)
  clear hb
  (try clear c0 f0)
  obtain ⟨c0, f0, l0⟩ := cells_of_block HK8.out.blk
  have HSM := Lib.hid (same_any L1 L1 (.slice uo5 L1.length uc5) (.slice uo8 L1.length uc8) W8 HK8.out.is.2.1 HV8.out)
  rw [show (L1 == L1) = true from by simp] at HSM
  go_wp2_with fail
  refine HSM.out.mono ?_
  rintro e W9 ⟨rfl, hb⟩
  have HK9 := Lib.hid (HK8.out.next hb)
  clear hb
  (try clear c0 f0)
  obtain ⟨c0, f0, l0⟩ := cells_of_block HK9.out.blk
  go_wp2_with fail
  refine (zFirst_any HS.out.1 tv (.slice on l.notes.length cn) (.slice eo es.length ec) es W9 (HA.out.2.below HK9.out.below (Nat.le_refl _)) HK9.out.is.1 HES.out.2).mono ?_
  rintro e W10 ⟨rfl, hb⟩
  rw [HV.out.2.2.1]
  have HK10 := Lib.hid (HK9.out.next hb)
  clear hb
  (try clear c0 f0)
  obtain ⟨c0, f0, l0⟩ := cells_of_block HK10.out.blk
  obtain ⟨rfl, rfl, rfl⟩ | ⟨k, hk, rfl, rfl, rfl⟩ := HFV.out
  · go_wp2_with fail
    refine (awake_any _).mono ?_
    rintro e W11 ⟨rfl, hb⟩
    have HB11 := Lib.hid (bgo HK10.out.below hb)
    clear hb
    go_wp2_with fail
    go_returns
    exact ⟨by simp, HB11.out⟩
  · have hk0 : ¬ (k : Int) < 0 := by omega
    go_wp2_with fail
    refine (awake_any _).mono ?_
    rintro e W11 ⟨rfl, hb⟩
    have HB11 := Lib.hid (bgo HK10.out.below hb)
    clear hb
    go_wp2_with fail
    go_returns
    exact ⟨by simp, HB11.out⟩
end Go.Proofs.YtdjgikcnmokjkaaGreat
