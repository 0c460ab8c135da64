/-
  The walk of WageSafes.
-/
import Derived.WalkKit
import Derived.WalkLawsBesides
import Derived.WalkSpells
import Derived.Outline
import Derived.Handy
import Derived.KernelRfl
import Derived.Lib.Hide
import Derived.BigRegion
import Derived.Deep.Cut
import Derived.Test.YtdjgikcnmokjkaaGreatZP
import Derived.Test.YtdjgikcnmokjkaaGreatVJ
namespace Go.Proofs.YtdjgikcnmokjkaaGreat
open Go.RowKit Go.RG Go.SL Go.Shelf Cou Go.TB
set_option maxHeartbeats 400000
set_option maxRecDepth 10000

/-- What the law needs. -/
theorem safes_plain {l : LedgerD} (h : askedErr l true = 0) {of : Int} :
    (leastW l).length = l.field.weeders.toNat ∧ (∀ x ∈ leastW l, 0 ≤ x ∧ x ≤ 2000) ∧ (∀ i, i < l.field.weeders.toNat → (widL emptyR (bndCs l (rowsL l) i)).1 = (leastW l).getD i 0) ∧
    (0 ≤ of → safeV l of = if sumI (leastW l) ≤ of then leastW l else rshareL of (leastW l)) := by
  obtain ⟨hS, hp⟩ := asked_ok h
  have hF := soundF_of hS.field
  obtain ⟨h1, h2⟩ := least_bd hS hp
  refine ⟨h1, fun x hx => by have := h2 x hx; omega, fun i hi => ?_, fun h0 => ?_⟩
  · rw [(bnd_plain h hi).2.2]
    unfold leastW
    have hl : i < (bndL partO l (duesT l)).length := by rw [least_len hS hp]; exact hi
    simp [List.getD, hl]
  · unfold safeV
    split
    · rfl
    · rw [share_eq (by omega) (by have := hF.weed1; omega)]

set_option maxHeartbeats 8000000 in
theorem WageSafes_any (l : LedgerD) (tv nv pv : Value) (money : Int) (ps : List Int) (w : World) (ht : TalliesAt w tv l.field.tallies) (hn : TriplesAt w nv l.notes) (hr : IntsAt w pv ps) :
    Calls Tryz.prog 14 #[lv l tv nv, iv money, pv] w (PV (.bool true) w) := by
  obtain ⟨orw, crw, rfl⟩ := hr.open
  have hrl := hr.len
  have HRW := Lib.hid hr
  clear hr
  have HA := Lib.hid (And.intro ht hn)
  have HR := Lib.hid (zThin_any l tv nv (w.alloc (.cells (lcells l tv nv) 30)) (ht.alloc _) (hn.alloc _))
  obtain ⟨on, cn, rfl⟩ := hn.open
  clear ht hn
  obtain ⟨rd, hrd⟩ : ∃ rd, thinL l = rd := ⟨_, rfl⟩
  rw [hrd] at HR
  have HRD := Lib.hid hrd
  clear hrd
  go_enter Tryz.func14, Tryz.ntmps14
  go_wp2_with fail
  refine HR.out.mono ?_
  rintro e W1 ⟨rfl, hb⟩
  have hk0 := (hb.block w.heap.size (by simp)).trans (heap_new0 w (.cells (lcells l tv (.slice on l.notes.length cn)) 30))
  have HB1 := Lib.hid (And.intro (show Below w.heap.size w W1 from (by repeat (first | exact Below.refl _ _ | assumption | refine bgo ?_ (by assumption) | refine bgoAlloc ?_ _ | refine bgoDrew ?_ | refine bgoSet ?_ (by simp; omega) _))) hk0)
  obtain ⟨c0, f0, l0⟩ := cells_of_block hk0
  clear hb hk0
  cases rd
  · clear c0 f0 l0
    go_wp2_with fail
    refine (awake_any _).mono ?_
    rintro e W2 ⟨rfl, hb⟩
    have HB2 := Lib.hid (bgo HB1.out.1 hb)
    clear hb
    go_wp2_with fail
    go_returns
    exact ⟨by simp, HB2.out⟩
  have HK1 := Lib.hid (Keeps.one HB1.out.1 HB1.out.2)
  obtain ⟨ht7, hn7⟩ := thin_facts HRD.out
  have HM := Lib.hid (And.intro ht7 hn7)
  clear ht7
  by_cases h9 : 6 < ps.length
  · have h9I : (ps.length : Int) > 6 := by omega
    go_wp2_with fail
    refine (awake_any _).mono ?_
    rintro e W2 ⟨rfl, hb⟩
    have HB2 := Lib.hid (bgo HK1.out.below hb)
    clear hb
    go_wp2_with fail
    go_returns
    exact ⟨by simp, HB2.out⟩
  have h9I : ¬ (ps.length : Int) > 6 := by omega
  obtain ⟨q, hq⟩ : ∃ q, faultW l = q := ⟨_, rfl⟩
  have HQ := Lib.hid hq
  obtain ⟨P, hP⟩ : ∃ P, inB money 0 2000 = P := ⟨_, rfl⟩
  have HPP := Lib.hid hP
  have HIN := Lib.hid (fun W : World => rIn_any money 0 2000 W)
  rw [hP] at HIN
  clear hq hP
  by_cases hq0 : q = 0
  case neg =>
    have hqb : (q != 0) = true := by simpa using hq0
    have hqz : (q == 0) = false := by rw [beq_eq_false_iff_ne]; exact hq0
    have hqq : (q == q) = true := by simp
    have HA1 := Lib.hid (show askedErr l true = q from by unfold askedErr; rw [HQ.out, if_pos hq0])
    have HS1 := Lib.hid (show askedErr l (inB money 0 2000) = q from by unfold askedErr; rw [HQ.out, if_pos hq0])
    have HPB := Lib.hid (show proveSafeB l ps = false from by unfold proveSafeB; rw [HA1.out]; simp [hq0])
    have HQ0 := Lib.hid hq0
    clear hq0
    go_wp2_with fail
    clear h9I
    refine (Ledger_any (l) (tv) (.slice on l.notes.length cn) W1 (HA.out.1.below HK1.out.below (Nat.le_refl _)) (HA.out.2.below HK1.out.below (Nat.le_refl _)) (by have := HM.out.1; omega) (by have := HM.out.2; omega)).mono ?_
    rintro e W2 ⟨a2, b2, rfl, ht2, hn2, hb⟩
    have HL2 := Lib.hid (And.intro ht2 hn2)
    clear ht2 hn2
    have HK2 := Lib.hid (HK1.out.next hb)
    clear hb
    (try clear c0 f0)
    obtain ⟨c0, f0, l0⟩ := cells_of_block HK2.out.blk
    go_wp2_with fail
    refine (Safe_any l a2 b2 money W2 HL2.out.1 HL2.out.2).mono ?_
    rintro e W3 ⟨hb, ⟨_, rfl⟩ | ⟨h0, _⟩⟩
    case inr => exact absurd ((HS1.out).symm.trans h0) HQ0.out
    rw [HS1.out]
    have HK3 := Lib.hid (HK2.out.next hb)
    clear hb
    (try clear c0 f0)
    obtain ⟨c0, f0, l0⟩ := cells_of_block HK3.out.blk
    go_wp2_with fail
    refine (Ledger_any (l) (tv) (.slice on l.notes.length cn) W3 (HA.out.1.below HK3.out.below (Nat.le_refl _)) (HA.out.2.below HK3.out.below (Nat.le_refl _)) (by have := HM.out.1; omega) (by have := HM.out.2; omega)).mono ?_
    rintro e W4 ⟨a4, b4, rfl, ht4, hn4, hb⟩
    have HL4 := Lib.hid (And.intro ht4 hn4)
    clear ht4 hn4
    have HK4 := Lib.hid (HK3.out.next hb)
    clear hb
    (try clear c0 f0)
    obtain ⟨c0, f0, l0⟩ := cells_of_block HK4.out.blk
    go_wp2_with fail
    refine (list_any ps (.slice orw ps.length crw) W4 (HRW.out.below HK4.out.below (Nat.le_refl _)) (by omega)).mono ?_
    rintro e W5 ⟨v5, rfl, ho5, hb⟩
    obtain ⟨uo5, uc5, rfl⟩ := owns_slice ho5
    have HPS := Lib.hid (ProveSafe_any l a4 b4 (.slice uo5 ps.length uc5) ps W5 (HL4.out.1.below hb (Nat.le_refl _)) (HL4.out.2.below hb (Nat.le_refl _)) (SlAt.of_owns ho5))
    rw [HPB.out] at HPS
    clear ho5
    have HK5 := Lib.hid (HK4.out.next hb)
    clear hb
    (try clear c0 f0)
    obtain ⟨c0, f0, l0⟩ := cells_of_block HK5.out.blk
    go_wp2_with fail
    refine HPS.out.mono ?_
    rintro e W6 ⟨rfl, hb⟩
    clear HPS
    have HK6 := Lib.hid (HK5.out.next hb)
    clear hb
    (try clear c0 f0)
    obtain ⟨c0, f0, l0⟩ := cells_of_block HK6.out.blk
    go_wp2_with fail
    refine (sure_any l tv (.slice on l.notes.length cn) W6 (HA.out.1.below HK6.out.below (Nat.le_refl _)) (HA.out.2.below HK6.out.below (Nat.le_refl _))).mono ?_
    rintro e W7 ⟨hb, ⟨_, rfl⟩ | ⟨h0, _⟩⟩
    case inr => exact absurd ((HA1.out).symm.trans h0) HQ0.out
    rw [HA1.out]
    have HK7 := Lib.hid (HK6.out.next hb)
    clear hb
    (try clear c0 f0)
    obtain ⟨c0, f0, l0⟩ := cells_of_block HK7.out.blk
    go_wp2_with fail
    clear c0 f0
    go_loopw [12, 13] (fun v12 u W8 => v12 = .bool false ∧ u = iv 0 ∧ Below W7.heap.size W7 W8) (fun _ _ _ => 0)
    case atStart => exact ⟨rfl, rfl, Below.refl _ _⟩
    case round =>
      obtain ⟨rfl, rfl, hb⟩ := hrel
      generalize wr = W8 at *
      have HK8 := Lib.hid (HK7.out.next hb)
      clear hb
      (try clear c0 f0)
      obtain ⟨c0, f0, l0⟩ := cells_of_block HK8.out.blk
      go_wp2_with fail
      all_goals
        refine (zfault_any l tv (.slice on l.notes.length cn) W8 (HA.out.1.below HK8.out.below (Nat.le_refl _)) (HA.out.2.below HK8.out.below (Nat.le_refl _))).mono ?_
        rintro e W9 ⟨rfl, hb⟩
        rw [HQ.out]
        have HK9 := Lib.hid (HK8.out.next hb)
        clear hb
        (try clear c0 f0)
        obtain ⟨c0, f0, l0⟩ := cells_of_block HK9.out.blk
        go_wp2_with fail
        refine (awake_any _).mono ?_
        rintro e W10 ⟨rfl, hb⟩
        have HB10 := Lib.hid (bgo HK9.out.below hb)
        clear hb
        go_wp2_with fail
        go_returns
        exact ⟨by simp, HB10.out⟩
  subst hq0
  obtain ⟨hS, hpo⟩ := faultW_sound HQ.out
  obtain hao | hao := asked_err HQ.out
  case inr =>
    have HA1 := Lib.hid hao
    have HPB := Lib.hid (show proveSafeB l ps = false from by unfold proveSafeB; rw [HA1.out]; rfl)
    clear hao hS hpo
    cases P
    · have HS1 := Lib.hid (show askedErr l (inB money 0 2000) = 2 from by unfold askedErr; rw [HQ.out, HPP.out]; simp)
      go_wp2_with fail
      clear h9I
      refine (Ledger_any (l) (tv) (.slice on l.notes.length cn) W1 (HA.out.1.below HK1.out.below (Nat.le_refl _)) (HA.out.2.below HK1.out.below (Nat.le_refl _)) (by have := HM.out.1; omega) (by have := HM.out.2; omega)).mono ?_
      rintro e W2 ⟨a2, b2, rfl, ht2, hn2, hb⟩
      have HL2 := Lib.hid (And.intro ht2 hn2)
      clear ht2 hn2
      have HK2 := Lib.hid (HK1.out.next hb)
      clear hb
      (try clear c0 f0)
      obtain ⟨c0, f0, l0⟩ := cells_of_block HK2.out.blk
      go_wp2_with fail
      refine (Safe_any l a2 b2 money W2 HL2.out.1 HL2.out.2).mono ?_
      rintro e W3 ⟨hb, ⟨_, rfl⟩ | ⟨h0, _⟩⟩
      case inr => exact absurd ((HS1.out).symm.trans h0) (by decide)
      rw [HS1.out]
      have HK3 := Lib.hid (HK2.out.next hb)
      clear hb
      (try clear c0 f0)
      obtain ⟨c0, f0, l0⟩ := cells_of_block HK3.out.blk
      go_wp2_with fail
      refine (Ledger_any (l) (tv) (.slice on l.notes.length cn) W3 (HA.out.1.below HK3.out.below (Nat.le_refl _)) (HA.out.2.below HK3.out.below (Nat.le_refl _)) (by have := HM.out.1; omega) (by have := HM.out.2; omega)).mono ?_
      rintro e W4 ⟨a4, b4, rfl, ht4, hn4, hb⟩
      have HL4 := Lib.hid (And.intro ht4 hn4)
      clear ht4 hn4
      have HK4 := Lib.hid (HK3.out.next hb)
      clear hb
      (try clear c0 f0)
      obtain ⟨c0, f0, l0⟩ := cells_of_block HK4.out.blk
      go_wp2_with fail
      refine (list_any ps (.slice orw ps.length crw) W4 (HRW.out.below HK4.out.below (Nat.le_refl _)) (by omega)).mono ?_
      rintro e W5 ⟨v5, rfl, ho5, hb⟩
      obtain ⟨uo5, uc5, rfl⟩ := owns_slice ho5
      have HPS := Lib.hid (ProveSafe_any l a4 b4 (.slice uo5 ps.length uc5) ps W5 (HL4.out.1.below hb (Nat.le_refl _)) (HL4.out.2.below hb (Nat.le_refl _)) (SlAt.of_owns ho5))
      rw [HPB.out] at HPS
      clear ho5
      have HK5 := Lib.hid (HK4.out.next hb)
      clear hb
      (try clear c0 f0)
      obtain ⟨c0, f0, l0⟩ := cells_of_block HK5.out.blk
      go_wp2_with fail
      refine HPS.out.mono ?_
      rintro e W6 ⟨rfl, hb⟩
      clear HPS
      have HK6 := Lib.hid (HK5.out.next hb)
      clear hb
      (try clear c0 f0)
      obtain ⟨c0, f0, l0⟩ := cells_of_block HK6.out.blk
      go_wp2_with fail
      refine (sure_any l tv (.slice on l.notes.length cn) W6 (HA.out.1.below HK6.out.below (Nat.le_refl _)) (HA.out.2.below HK6.out.below (Nat.le_refl _))).mono ?_
      rintro e W7 ⟨hb, ⟨_, rfl⟩ | ⟨h0, _⟩⟩
      case inr => exact absurd ((HA1.out).symm.trans h0) (by decide)
      rw [HA1.out]
      have HK7 := Lib.hid (HK6.out.next hb)
      clear hb
      (try clear c0 f0)
      obtain ⟨c0, f0, l0⟩ := cells_of_block HK7.out.blk
      go_wp2_with fail
      clear c0 f0
      go_loopw [12, 13] (fun v12 u W8 => v12 = .bool false ∧ u = iv 0 ∧ Below W7.heap.size W7 W8) (fun _ _ _ => 0)
      case atStart => exact ⟨rfl, rfl, Below.refl _ _⟩
      case round =>
        obtain ⟨rfl, rfl, hb⟩ := hrel
        generalize wr = W8 at *
        have HK8 := Lib.hid (HK7.out.next hb)
        clear hb
        (try clear c0 f0)
        obtain ⟨c0, f0, l0⟩ := cells_of_block HK8.out.blk
        go_wp2_with fail
        all_goals
          refine (zfault_any l tv (.slice on l.notes.length cn) W8 (HA.out.1.below HK8.out.below (Nat.le_refl _)) (HA.out.2.below HK8.out.below (Nat.le_refl _))).mono ?_
          rintro e W9 ⟨rfl, hb⟩
          rw [HQ.out]
          have HK9 := Lib.hid (HK8.out.next hb)
          clear hb
          (try clear c0 f0)
          obtain ⟨c0, f0, l0⟩ := cells_of_block HK9.out.blk
          go_wp2_with fail
          refine (HIN.out W9).mono ?_
          rintro e W10 ⟨rfl, hb⟩
          have HK10 := Lib.hid (HK9.out.next hb)
          clear hb
          (try clear c0 f0)
          obtain ⟨c0, f0, l0⟩ := cells_of_block HK10.out.blk
          go_wp2_with fail
          refine (awake_any _).mono ?_
          rintro e W11 ⟨rfl, hb⟩
          have HB11 := Lib.hid (bgo HK10.out.below hb)
          clear hb
          go_wp2_with fail
          go_returns
          exact ⟨by simp, HB11.out⟩
    · have HS1 := Lib.hid (show askedErr l (inB money 0 2000) = 11 from by rw [HPP.out]; exact HA1.out)
      go_wp2_with fail
      clear h9I
      refine (Ledger_any (l) (tv) (.slice on l.notes.length cn) W1 (HA.out.1.below HK1.out.below (Nat.le_refl _)) (HA.out.2.below HK1.out.below (Nat.le_refl _)) (by have := HM.out.1; omega) (by have := HM.out.2; omega)).mono ?_
      rintro e W2 ⟨a2, b2, rfl, ht2, hn2, hb⟩
      have HL2 := Lib.hid (And.intro ht2 hn2)
      clear ht2 hn2
      have HK2 := Lib.hid (HK1.out.next hb)
      clear hb
      (try clear c0 f0)
      obtain ⟨c0, f0, l0⟩ := cells_of_block HK2.out.blk
      go_wp2_with fail
      refine (Safe_any l a2 b2 money W2 HL2.out.1 HL2.out.2).mono ?_
      rintro e W3 ⟨hb, ⟨_, rfl⟩ | ⟨h0, _⟩⟩
      case inr => exact absurd ((HS1.out).symm.trans h0) (by decide)
      rw [HS1.out]
      have HK3 := Lib.hid (HK2.out.next hb)
      clear hb
      (try clear c0 f0)
      obtain ⟨c0, f0, l0⟩ := cells_of_block HK3.out.blk
      go_wp2_with fail
      refine (Ledger_any (l) (tv) (.slice on l.notes.length cn) W3 (HA.out.1.below HK3.out.below (Nat.le_refl _)) (HA.out.2.below HK3.out.below (Nat.le_refl _)) (by have := HM.out.1; omega) (by have := HM.out.2; omega)).mono ?_
      rintro e W4 ⟨a4, b4, rfl, ht4, hn4, hb⟩
      have HL4 := Lib.hid (And.intro ht4 hn4)
      clear ht4 hn4
      have HK4 := Lib.hid (HK3.out.next hb)
      clear hb
      (try clear c0 f0)
      obtain ⟨c0, f0, l0⟩ := cells_of_block HK4.out.blk
      go_wp2_with fail
      refine (list_any ps (.slice orw ps.length crw) W4 (HRW.out.below HK4.out.below (Nat.le_refl _)) (by omega)).mono ?_
      rintro e W5 ⟨v5, rfl, ho5, hb⟩
      obtain ⟨uo5, uc5, rfl⟩ := owns_slice ho5
      have HPS := Lib.hid (ProveSafe_any l a4 b4 (.slice uo5 ps.length uc5) ps W5 (HL4.out.1.below hb (Nat.le_refl _)) (HL4.out.2.below hb (Nat.le_refl _)) (SlAt.of_owns ho5))
      rw [HPB.out] at HPS
      clear ho5
      have HK5 := Lib.hid (HK4.out.next hb)
      clear hb
      (try clear c0 f0)
      obtain ⟨c0, f0, l0⟩ := cells_of_block HK5.out.blk
      go_wp2_with fail
      refine HPS.out.mono ?_
      rintro e W6 ⟨rfl, hb⟩
      clear HPS
      have HK6 := Lib.hid (HK5.out.next hb)
      clear hb
      (try clear c0 f0)
      obtain ⟨c0, f0, l0⟩ := cells_of_block HK6.out.blk
      go_wp2_with fail
      refine (sure_any l tv (.slice on l.notes.length cn) W6 (HA.out.1.below HK6.out.below (Nat.le_refl _)) (HA.out.2.below HK6.out.below (Nat.le_refl _))).mono ?_
      rintro e W7 ⟨hb, ⟨_, rfl⟩ | ⟨h0, _⟩⟩
      case inr => exact absurd ((HA1.out).symm.trans h0) (by decide)
      rw [HA1.out]
      have HK7 := Lib.hid (HK6.out.next hb)
      clear hb
      (try clear c0 f0)
      obtain ⟨c0, f0, l0⟩ := cells_of_block HK7.out.blk
      go_wp2_with fail
      clear c0 f0
      go_loopw [12, 13] (fun v12 u W8 => v12 = .bool false ∧ u = iv 0 ∧ Below W7.heap.size W7 W8) (fun _ _ _ => 0)
      case atStart => exact ⟨rfl, rfl, Below.refl _ _⟩
      case round =>
        obtain ⟨rfl, rfl, hb⟩ := hrel
        generalize wr = W8 at *
        have HK8 := Lib.hid (HK7.out.next hb)
        clear hb
        (try clear c0 f0)
        obtain ⟨c0, f0, l0⟩ := cells_of_block HK8.out.blk
        go_wp2_with fail
        all_goals
          refine (zfault_any l tv (.slice on l.notes.length cn) W8 (HA.out.1.below HK8.out.below (Nat.le_refl _)) (HA.out.2.below HK8.out.below (Nat.le_refl _))).mono ?_
          rintro e W9 ⟨rfl, hb⟩
          rw [HQ.out]
          have HK9 := Lib.hid (HK8.out.next hb)
          clear hb
          (try clear c0 f0)
          obtain ⟨c0, f0, l0⟩ := cells_of_block HK9.out.blk
          go_wp2_with fail
          refine (HIN.out W9).mono ?_
          rintro e W10 ⟨rfl, hb⟩
          have HK10 := Lib.hid (HK9.out.next hb)
          clear hb
          (try clear c0 f0)
          obtain ⟨c0, f0, l0⟩ := cells_of_block HK10.out.blk
          go_wp2_with fail
          refine (awake_any _).mono ?_
          rintro e W11 ⟨rfl, hb⟩
          have HB11 := Lib.hid (bgo HK10.out.below hb)
          clear hb
          go_wp2_with fail
          go_returns
          exact ⟨by simp, HB11.out⟩
  have HA1 := Lib.hid hao
  have hF := soundF_of hS.field
  obtain ⟨n, hnw⟩ : ∃ n : Nat, l.field.weeders = n := ⟨l.field.weeders.toNat, by have := hF.weed0; omega⟩
  have hwt : l.field.weeders.toNat = n := by omega
  have hn3 : n ≤ 3 := by have := hF.weed1; omega
  obtain ⟨k1, k2, k3, k4⟩ := safes_plain HA1.out (of := money)
  obtain ⟨is, his⟩ : ∃ is, proveSafeB l ps = is := ⟨_, rfl⟩
  have his2 : is = (decide (ps.length = n) && safeTo (leastW l) ps n) := by rw [← his]; unfold proveSafeB; rw [HA1.out, hwt]; simp
  have hsf : safeTo (leastW l) ps 0 = true := rfl
  obtain ⟨R, hR⟩ : ∃ R, safeV l money = R := ⟨_, rfl⟩
  rw [hR] at k4
  rw [hwt] at k1 k3
  generalize leastW l = L at *
  have HLL := Lib.hid (And.intro k1 (And.intro k2 (And.intro k3 k4)))
  have HIS := Lib.hid (And.intro his his2)
  have HR := Lib.hid hR
  have HNW := Lib.hid (And.intro hnw hwt)
  have HS := Lib.hid hS
  have hisis : (is != is) = false := by simp
  clear hao hpo hF hwt k1 k2 k3 k4 his his2 hR hS
  by_cases hln : ps.length = n
  case neg =>
    have hlnb : ((ps.length : Int) == l.field.weeders) = false := by rw [hnw, beq_eq_false_iff_ne]; omega
    obtain rfl : is = false := by rw [HIS.out.2]; simp [hln]
    clear hnw
    cases P
    ·
      have HS1 := Lib.hid (show askedErr l (inB money 0 2000) = 2 from by unfold askedErr; rw [HQ.out, HPP.out]; simp)
      go_wp2_with fail
      clear h9I
      refine (Ledger_any (l) (tv) (.slice on l.notes.length cn) W1 (HA.out.1.below HK1.out.below (Nat.le_refl _)) (HA.out.2.below HK1.out.below (Nat.le_refl _)) (by have := HM.out.1; omega) (by have := HM.out.2; omega)).mono ?_
      rintro e W2 ⟨a2, b2, rfl, ht2, hn2, hb⟩
      have HL2 := Lib.hid (And.intro ht2 hn2)
      clear ht2 hn2
      have HK2 := Lib.hid (HK1.out.next hb)
      clear hb
      (try clear c0 f0)
      obtain ⟨c0, f0, l0⟩ := cells_of_block HK2.out.blk
      go_wp2_with fail
      refine (Safe_any l a2 b2 money W2 HL2.out.1 HL2.out.2).mono ?_
      rintro e W3 ⟨hb, ⟨_, rfl⟩ | ⟨h0, _⟩⟩
      case inr => exact absurd ((HS1.out).symm.trans h0) (by decide)
      rw [HS1.out]
      have HK3 := Lib.hid (HK2.out.next hb)
      clear hb
      (try clear c0 f0)
      obtain ⟨c0, f0, l0⟩ := cells_of_block HK3.out.blk
      go_wp2_with fail
      refine (Ledger_any (l) (tv) (.slice on l.notes.length cn) W3 (HA.out.1.below HK3.out.below (Nat.le_refl _)) (HA.out.2.below HK3.out.below (Nat.le_refl _)) (by have := HM.out.1; omega) (by have := HM.out.2; omega)).mono ?_
      rintro e W4 ⟨a4, b4, rfl, ht4, hn4, hb⟩
      have HL4 := Lib.hid (And.intro ht4 hn4)
      clear ht4 hn4
      have HK4 := Lib.hid (HK3.out.next hb)
      clear hb
      (try clear c0 f0)
      obtain ⟨c0, f0, l0⟩ := cells_of_block HK4.out.blk
      go_wp2_with fail
      refine (list_any ps (.slice orw ps.length crw) W4 (HRW.out.below HK4.out.below (Nat.le_refl _)) (by omega)).mono ?_
      rintro e W5 ⟨v5, rfl, ho5, hb⟩
      obtain ⟨uo5, uc5, rfl⟩ := owns_slice ho5
      have HPS := Lib.hid (ProveSafe_any l a4 b4 (.slice uo5 ps.length uc5) ps W5 (HL4.out.1.below hb (Nat.le_refl _)) (HL4.out.2.below hb (Nat.le_refl _)) (SlAt.of_owns ho5))
      rw [HIS.out.1] at HPS
      clear ho5
      have HK5 := Lib.hid (HK4.out.next hb)
      clear hb
      (try clear c0 f0)
      obtain ⟨c0, f0, l0⟩ := cells_of_block HK5.out.blk
      go_wp2_with fail
      refine HPS.out.mono ?_
      rintro e W6 ⟨rfl, hb⟩
      clear HPS
      have HK6 := Lib.hid (HK5.out.next hb)
      clear hb
      (try clear c0 f0)
      obtain ⟨c0, f0, l0⟩ := cells_of_block HK6.out.blk
      go_wp2_with fail
      refine (sure_any l tv (.slice on l.notes.length cn) W6 (HA.out.1.below HK6.out.below (Nat.le_refl _)) (HA.out.2.below HK6.out.below (Nat.le_refl _))).mono ?_
      rintro e W7 ⟨hb, ⟨hne, _⟩ | ⟨_, ev, es, rfl, hes, hmap, hesne⟩⟩
      · exact absurd (HA1.out) hne
      obtain ⟨eo, ec, rfl⟩ := hes.1.open
      have HES := Lib.hid (And.intro hes (And.intro hmap hesne))
      have hel := hes.1.len
      clear hes hmap hesne
      have HK7 := Lib.hid (HK6.out.next hb)
      clear hb
      (try clear c0 f0)
      obtain ⟨c0, f0, l0⟩ := cells_of_block HK7.out.blk
      have HK7 := Lib.hid (HK7.out.add (T := fun W => ListsAt W (.slice eo es.length ec) es) HES.out.1 (last_lists HES.out.1))
      go_wp2_with fail
      clear c0 f0
      go_loopw [12, 13] (fun v12 u W8 => v12 = .bool false ∧ u = iv 0 ∧ Below W7.heap.size W7 W8) (fun _ _ _ => 0)
      case atStart => exact ⟨rfl, rfl, Below.refl _ _⟩
      case round =>
        obtain ⟨rfl, rfl, hb⟩ := hrel
        generalize wr = W8 at *
        have HK8 := Lib.hid (HK7.out.next hb)
        clear hb
        (try clear c0 f0)
        obtain ⟨c0, f0, l0⟩ := cells_of_block HK8.out.blk
        go_wp2_with fail
        all_goals
          refine (zfault_any l tv (.slice on l.notes.length cn) W8 (HA.out.1.below HK8.out.below (Nat.le_refl _)) (HA.out.2.below HK8.out.below (Nat.le_refl _))).mono ?_
          rintro e W9 ⟨rfl, hb⟩
          rw [HQ.out]
          have HK9 := Lib.hid (HK8.out.next hb)
          clear hb
          (try clear c0 f0)
          obtain ⟨c0, f0, l0⟩ := cells_of_block HK9.out.blk
          go_wp2_with fail
          refine (HIN.out W9).mono ?_
          rintro e W10 ⟨rfl, hb⟩
          have HK10 := Lib.hid (HK9.out.next hb)
          clear hb
          (try clear c0 f0)
          obtain ⟨c0, f0, l0⟩ := cells_of_block HK10.out.blk
          go_wp2_with fail
          refine (awake_any _).mono ?_
          rintro e W11 ⟨rfl, hb⟩
          have HB11 := Lib.hid (bgo HK10.out.below hb)
          clear hb
          go_wp2_with fail
          go_returns
          exact ⟨by simp, HB11.out⟩
    ·
      have HS1 := Lib.hid (show askedErr l (inB money 0 2000) = 0 from by rw [HPP.out]; exact HA1.out)
      have hmb : 0 ≤ money ∧ money ≤ 2000 := by have := HPP.out; unfold inB at this; simpa using this
      go_wp2_with fail
      clear h9I
      refine (Ledger_any (l) (tv) (.slice on l.notes.length cn) W1 (HA.out.1.below HK1.out.below (Nat.le_refl _)) (HA.out.2.below HK1.out.below (Nat.le_refl _)) (by have := HM.out.1; omega) (by have := HM.out.2; omega)).mono ?_
      rintro e W2 ⟨a2, b2, rfl, ht2, hn2, hb⟩
      have HL2 := Lib.hid (And.intro ht2 hn2)
      clear ht2 hn2
      have HK2 := Lib.hid (HK1.out.next hb)
      clear hb
      (try clear c0 f0)
      obtain ⟨c0, f0, l0⟩ := cells_of_block HK2.out.blk
      go_wp2_with fail
      refine (Safe_any l a2 b2 money W2 HL2.out.1 HL2.out.2).mono ?_
      rintro e W3 ⟨hb, ⟨hne, _⟩ | ⟨_, u3, rfl, hu3⟩⟩
      · exact absurd HS1.out hne
      rw [HR.out] at hu3
      obtain ⟨uo3, uc3, rfl⟩ := hu3.open
      have HU3 := Lib.hid hu3
      clear hu3
      have HK3 := Lib.hid (HK2.out.next hb)
      clear hb
      (try clear c0 f0)
      obtain ⟨c0, f0, l0⟩ := cells_of_block HK3.out.blk
      have HK3 := Lib.hid (HK3.out.add (T := fun W => IntsAt W (.slice uo3 R.length uc3) R) HU3.out (last_at HU3.out))
      go_wp2_with fail
      refine (Ledger_any (l) (tv) (.slice on l.notes.length cn) W3 (HA.out.1.below HK3.out.below (Nat.le_refl _)) (HA.out.2.below HK3.out.below (Nat.le_refl _)) (by have := HM.out.1; omega) (by have := HM.out.2; omega)).mono ?_
      rintro e W4 ⟨a4, b4, rfl, ht4, hn4, hb⟩
      have HL4 := Lib.hid (And.intro ht4 hn4)
      clear ht4 hn4
      have HK4 := Lib.hid (HK3.out.next hb)
      clear hb
      (try clear c0 f0)
      obtain ⟨c0, f0, l0⟩ := cells_of_block HK4.out.blk
      go_wp2_with fail
      refine (list_any ps (.slice orw ps.length crw) W4 (HRW.out.below HK4.out.below (Nat.le_refl _)) (by omega)).mono ?_
      rintro e W5 ⟨v5, rfl, ho5, hb⟩
      obtain ⟨uo5, uc5, rfl⟩ := owns_slice ho5
      have HPS := Lib.hid (ProveSafe_any l a4 b4 (.slice uo5 ps.length uc5) ps W5 (HL4.out.1.below hb (Nat.le_refl _)) (HL4.out.2.below hb (Nat.le_refl _)) (SlAt.of_owns ho5))
      rw [HIS.out.1] at HPS
      clear ho5
      have HK5 := Lib.hid (HK4.out.next hb)
      clear hb
      (try clear c0 f0)
      obtain ⟨c0, f0, l0⟩ := cells_of_block HK5.out.blk
      go_wp2_with fail
      refine HPS.out.mono ?_
      rintro e W6 ⟨rfl, hb⟩
      clear HPS
      have HK6 := Lib.hid (HK5.out.next hb)
      clear hb
      (try clear c0 f0)
      obtain ⟨c0, f0, l0⟩ := cells_of_block HK6.out.blk
      go_wp2_with fail
      refine (sure_any l tv (.slice on l.notes.length cn) W6 (HA.out.1.below HK6.out.below (Nat.le_refl _)) (HA.out.2.below HK6.out.below (Nat.le_refl _))).mono ?_
      rintro e W7 ⟨hb, ⟨hne, _⟩ | ⟨_, ev, es, rfl, hes, hmap, hesne⟩⟩
      · exact absurd (HA1.out) hne
      obtain ⟨eo, ec, rfl⟩ := hes.1.open
      have HES := Lib.hid (And.intro hes (And.intro hmap hesne))
      have hel := hes.1.len
      clear hes hmap hesne
      have HK7 := Lib.hid (HK6.out.next hb)
      clear hb
      (try clear c0 f0)
      obtain ⟨c0, f0, l0⟩ := cells_of_block HK7.out.blk
      have HK7 := Lib.hid (HK7.out.add (T := fun W => ListsAt W (.slice eo es.length ec) es) HES.out.1 (last_lists HES.out.1))
      go_wp2_with fail
      clear c0 f0
      go_loopw [12, 13] (fun v12 u W8 => v12 = .bool false ∧ u = iv 0 ∧ Below W7.heap.size W7 W8) (fun _ _ _ => 0)
      case atStart => exact ⟨rfl, rfl, Below.refl _ _⟩
      case round =>
        obtain ⟨rfl, rfl, hb⟩ := hrel
        generalize wr = W8 at *
        have HK8 := Lib.hid (HK7.out.next hb)
        clear hb
        (try clear c0 f0)
        obtain ⟨c0, f0, l0⟩ := cells_of_block HK8.out.blk
        go_wp2_with fail
        all_goals
          refine (zfault_any l tv (.slice on l.notes.length cn) W8 (HA.out.1.below HK8.out.below (Nat.le_refl _)) (HA.out.2.below HK8.out.below (Nat.le_refl _))).mono ?_
          rintro e W9 ⟨rfl, hb⟩
          rw [HQ.out]
          have HK9 := Lib.hid (HK8.out.next hb)
          clear hb
          (try clear c0 f0)
          obtain ⟨c0, f0, l0⟩ := cells_of_block HK9.out.blk
          go_wp2_with fail
          refine (HIN.out W9).mono ?_
          rintro e W10 ⟨rfl, hb⟩
          have HK10 := Lib.hid (HK9.out.next hb)
          clear hb
          (try clear c0 f0)
          obtain ⟨c0, f0, l0⟩ := cells_of_block HK10.out.blk
          go_wp2_with fail
          refine (zSafe_any HS.out tv (.slice on l.notes.length cn) (.slice eo es.length ec) es money L W10 (HA.out.2.below HK10.out.below (Nat.le_refl _)) HK10.out.is.1 HES.out.2.1 (by rw [HNW.out.2]; exact HLL.out.2.2.1) (by rw [HNW.out.2]; exact HLL.out.1) HLL.out.2.1 hmb).mono ?_
          rintro e W11 ⟨u11, rfl, hu11, hb⟩
          rw [← HLL.out.2.2.2 hmb.1] at hu11
          obtain ⟨uo11, uc11, rfl⟩ := hu11.open
          have HU11 := Lib.hid hu11
          clear hu11
          have HK11 := Lib.hid (HK10.out.next hb)
          clear hb
          (try clear c0 f0)
          obtain ⟨c0, f0, l0⟩ := cells_of_block HK11.out.blk
          go_wp2_with fail
          refine (same_any R R (.slice uo3 R.length uc3) (.slice uo11 R.length uc11) W11 HK11.out.is.2.1 HU11.out).mono ?_
          rw [beq_self_eq_true]
          rintro e W12 ⟨rfl, hb⟩
          have HK12 := Lib.hid (HK11.out.next hb)
          clear hb
          (try clear c0 f0)
          obtain ⟨c0, f0, l0⟩ := cells_of_block HK12.out.blk
          go_wp2_with fail
          refine (awake_any _).mono ?_
          rintro e W13 ⟨rfl, hb⟩
          have HB13 := Lib.hid (bgo HK12.out.below hb)
          clear hb
          go_wp2_with fail
          go_returns
          exact ⟨by simp, HB13.out⟩
  have hlnb : ((ps.length : Int) == l.field.weeders) = true := by rw [hnw, beq_iff_eq]; omega
  have HIS := Lib.hid (And.intro HIS.out.1 (show is = safeTo L ps n from by rw [HIS.out.2, hln]; simp))
  have HLN := Lib.hid hln
  clear hnw hln
  cases P
  ·
    have HS1 := Lib.hid (show askedErr l (inB money 0 2000) = 2 from by unfold askedErr; rw [HQ.out, HPP.out]; simp)
    go_wp2_with fail
    clear h9I
    refine (Ledger_any (l) (tv) (.slice on l.notes.length cn) W1 (HA.out.1.below HK1.out.below (Nat.le_refl _)) (HA.out.2.below HK1.out.below (Nat.le_refl _)) (by have := HM.out.1; omega) (by have := HM.out.2; omega)).mono ?_
    rintro e W2 ⟨a2, b2, rfl, ht2, hn2, hb⟩
    have HL2 := Lib.hid (And.intro ht2 hn2)
    clear ht2 hn2
    have HK2 := Lib.hid (HK1.out.next hb)
    clear hb
    (try clear c0 f0)
    obtain ⟨c0, f0, l0⟩ := cells_of_block HK2.out.blk
    go_wp2_with fail
    refine (Safe_any l a2 b2 money W2 HL2.out.1 HL2.out.2).mono ?_
    rintro e W3 ⟨hb, ⟨_, rfl⟩ | ⟨h0, _⟩⟩
    case inr => exact absurd ((HS1.out).symm.trans h0) (by decide)
    rw [HS1.out]
    have HK3 := Lib.hid (HK2.out.next hb)
    clear hb
    (try clear c0 f0)
    obtain ⟨c0, f0, l0⟩ := cells_of_block HK3.out.blk
    go_wp2_with fail
    refine (Ledger_any (l) (tv) (.slice on l.notes.length cn) W3 (HA.out.1.below HK3.out.below (Nat.le_refl _)) (HA.out.2.below HK3.out.below (Nat.le_refl _)) (by have := HM.out.1; omega) (by have := HM.out.2; omega)).mono ?_
    rintro e W4 ⟨a4, b4, rfl, ht4, hn4, hb⟩
    have HL4 := Lib.hid (And.intro ht4 hn4)
    clear ht4 hn4
    have HK4 := Lib.hid (HK3.out.next hb)
    clear hb
    (try clear c0 f0)
    obtain ⟨c0, f0, l0⟩ := cells_of_block HK4.out.blk
    go_wp2_with fail
    refine (list_any ps (.slice orw ps.length crw) W4 (HRW.out.below HK4.out.below (Nat.le_refl _)) (by omega)).mono ?_
    rintro e W5 ⟨v5, rfl, ho5, hb⟩
    obtain ⟨uo5, uc5, rfl⟩ := owns_slice ho5
    have HPS := Lib.hid (ProveSafe_any l a4 b4 (.slice uo5 ps.length uc5) ps W5 (HL4.out.1.below hb (Nat.le_refl _)) (HL4.out.2.below hb (Nat.le_refl _)) (SlAt.of_owns ho5))
    rw [HIS.out.1] at HPS
    clear ho5
    have HK5 := Lib.hid (HK4.out.next hb)
    clear hb
    (try clear c0 f0)
    obtain ⟨c0, f0, l0⟩ := cells_of_block HK5.out.blk
    go_wp2_with fail
    refine HPS.out.mono ?_
    rintro e W6 ⟨rfl, hb⟩
    clear HPS
    have HK6 := Lib.hid (HK5.out.next hb)
    clear hb
    (try clear c0 f0)
    obtain ⟨c0, f0, l0⟩ := cells_of_block HK6.out.blk
    go_wp2_with fail
    refine (sure_any l tv (.slice on l.notes.length cn) W6 (HA.out.1.below HK6.out.below (Nat.le_refl _)) (HA.out.2.below HK6.out.below (Nat.le_refl _))).mono ?_
    rintro e W7 ⟨hb, ⟨hne, _⟩ | ⟨_, ev, es, rfl, hes, hmap, hesne⟩⟩
    · exact absurd (HA1.out) hne
    obtain ⟨eo, ec, rfl⟩ := hes.1.open
    have HES := Lib.hid (And.intro hes (And.intro hmap hesne))
    have hel := hes.1.len
    clear hes hmap hesne
    have HK7 := Lib.hid (HK6.out.next hb)
    clear hb
    (try clear c0 f0)
    obtain ⟨c0, f0, l0⟩ := cells_of_block HK7.out.blk
    have HK7 := Lib.hid (HK7.out.add (T := fun W => ListsAt W (.slice eo es.length ec) es) HES.out.1 (last_lists HES.out.1))
    go_wp2_with fail
    clear c0 f0
    go_loopw [12, 13] (fun v12 u W8 => ∃ k : Nat, k ≤ n ∧ u = .int .i64 k ∧ v12 = .bool (safeTo L ps k) ∧ Below W7.heap.size W7 W8) (fun _ u _ => n - (intOf u).toNat)
    case atStart => exact ⟨0, Nat.zero_le _, rfl, rfl, Below.refl _ _⟩
    case round =>
      obtain ⟨k, hk, rfl, rfl, hb⟩ := hrel
      generalize wr = W8 at *
      have HBR := Lib.hid hb
      have HK8 := Lib.hid (HK7.out.next hb)
      clear hb
      (try clear c0 f0)
      obtain ⟨c0, f0, l0⟩ := cells_of_block HK8.out.blk
      by_cases hlt : k < n
      case neg =>
        have hkn : k = n := by omega
        subst hkn
        rw [← HIS.out.2]
        have hnl : ¬ (k : Int) < ps.length := by have := HLN.out; omega
        go_wp2_with fail
        refine (zfault_any l tv (.slice on l.notes.length cn) W8 (HA.out.1.below HK8.out.below (Nat.le_refl _)) (HA.out.2.below HK8.out.below (Nat.le_refl _))).mono ?_
        rintro e W9 ⟨rfl, hb⟩
        rw [HQ.out]
        have HK9 := Lib.hid (HK8.out.next hb)
        clear hb
        (try clear c0 f0)
        obtain ⟨c0, f0, l0⟩ := cells_of_block HK9.out.blk
        go_wp2_with fail
        refine (HIN.out W9).mono ?_
        rintro e W10 ⟨rfl, hb⟩
        have HK10 := Lib.hid (HK9.out.next hb)
        clear hb
        (try clear c0 f0)
        obtain ⟨c0, f0, l0⟩ := cells_of_block HK10.out.blk
        go_wp2_with fail
        refine (awake_any _).mono ?_
        rintro e W11 ⟨rfl, hb⟩
        have HB11 := Lib.hid (bgo HK10.out.below hb)
        clear hb
        go_wp2_with fail
        go_returns
        exact ⟨by simp, HB11.out⟩
      cases hsk : safeTo L ps k
      ·
        obtain rfl : is = false := by
          rw [HIS.out.2]
          unfold safeTo at hsk ⊢
          rw [List.all_eq_false] at hsk ⊢
          obtain ⟨i, hi, h⟩ := hsk
          exact ⟨i, List.mem_range.2 (by have := List.mem_range.1 hi; omega), h⟩
        have hltI : (k : Int) < ps.length := by have := HLN.out; omega
        clear hsk
        go_wp2_with fail
        refine (zfault_any l tv (.slice on l.notes.length cn) W8 (HA.out.1.below HK8.out.below (Nat.le_refl _)) (HA.out.2.below HK8.out.below (Nat.le_refl _))).mono ?_
        rintro e W9 ⟨rfl, hb⟩
        rw [HQ.out]
        have HK9 := Lib.hid (HK8.out.next hb)
        clear hb
        (try clear c0 f0)
        obtain ⟨c0, f0, l0⟩ := cells_of_block HK9.out.blk
        go_wp2_with fail
        refine (HIN.out W9).mono ?_
        rintro e W10 ⟨rfl, hb⟩
        have HK10 := Lib.hid (HK9.out.next hb)
        clear hb
        (try clear c0 f0)
        obtain ⟨c0, f0, l0⟩ := cells_of_block HK10.out.blk
        go_wp2_with fail
        refine (awake_any _).mono ?_
        rintro e W11 ⟨rfl, hb⟩
        have HB11 := Lib.hid (bgo HK10.out.below hb)
        clear hb
        go_wp2_with fail
        go_returns
        exact ⟨by simp, HB11.out⟩
      ·
        have hltI : (k : Int) < ps.length := by have := HLN.out; omega
        have hkp : k < ps.length := by have := HLN.out; omega
        have hkL : k < L.length := by rw [HLL.out.1]; exact hlt
        have hlow := HLL.out.2.2.1 k hlt
        have hsu := safeTo_succ L ps k
        rw [hsk, Bool.true_and] at hsu
        rw [show ps.getD k 0 = ps[k] by simp [List.getD, hkp]] at hsu
        obtain ⟨x, hx⟩ : ∃ x, L.getD k 0 = x := ⟨_, rfl⟩
        rw [hx] at hlow hsu
        obtain ⟨b1, off1, hv1, hl1, d1⟩ := IntsAt.cell (HRW.out.below HK8.out.below (Nat.le_refl _)) hkp
        have HBO := Lib.hid (zBounds_any HS.out tv (.slice on l.notes.length cn) (.slice eo es.length ec) es k W8 (HA.out.2.below HK8.out.below (Nat.le_refl _)) HK8.out.is.1 HES.out.2.1 (by rw [HNW.out.2]; exact hlt))
        generalize ps[k] = y at *
        generalize widL emptyR (bndAs l (rowsL l) k) = A at *
        generalize widL emptyR (bndBs l (rowsL l) k) = B at *
        generalize widL emptyR (bndCs l (rowsL l) k) = C at *
        obtain ⟨A0, A1⟩ := A
        obtain ⟨B0, B1⟩ := B
        obtain ⟨C0, C1⟩ := C
        simp only at hlow
        subst hlow
        obtain ⟨z, hz⟩ : ∃ z, inB y 0 C0 = z := ⟨_, rfl⟩
        rw [hz] at hsu
        have HIY := Lib.hid (fun W : World => rIn_any y 0 C0 W)
        rw [hz] at HIY
        have HSU := Lib.hid hsu
        cases hv1
        clear hsk hsu hx hz hkL
        go_wp2_with fail
        refine HBO.out.mono ?_
        rintro e Wa ⟨rfl, hb⟩
        have HBA := Lib.hid (bgo HBR.out hb)
        have d1 := ((Ext.of_below (Ms := []) hb).cell _ _ hl1 (by simp)).trans d1
        have hl1 := Nat.lt_of_lt_of_le hl1 hb.size
        clear hb c0 f0
        go_upto_region 11 with (fail)
        refine gworld fun Wb hWb => ?_
        have hx3 : Wb.heap[Wa.heap.size + 1 + 1]? = some (.cells #[iv C0, iv C1] 27 (0, 0)) := by rw [hWb]; exact heap_new2 _ _ _ _
        have hb : Below Wa.heap.size Wa Wb := by rw [hWb]; exact bgoAlloc (bgoAlloc (bgoAlloc (Below.refl _ _) _) _) _
        have d1 := ((Ext.of_below (Ms := []) hb).cell _ _ hl1 (by simp)).trans d1
        have hl1 := Nat.lt_of_lt_of_le hl1 hb.size
        have HBB := Lib.hid (bgo HBA.out hb)
        obtain ⟨c3, f3, l3⟩ := cells_of_block hx3
        clear hb hWb hx3
        refine wp_region_rg 7 [] none [(6, Spec.val (.bool z))] (by as_aux_lemma => kernel_rfl) (by as_aux_lemma => kernel_rfl) ?_
        simp only [List.take_succ_cons, List.take_zero, List.drop_succ_cons, List.drop_zero]
        repeat (first | (refine tree_det (by rfl) _ (by rfl) (fun W hW => by go_simp; (try simp (disch := omega) only [IntWalk.i64_in]); try rfl) ?_; simp only [Act.put, List.setIfInBounds_toArray, List.set_cons_succ, List.set_cons_zero]) | (refine tree_skip (by rfl) (by rfl) ?_; simp only [Act.put, List.setIfInBounds_toArray, List.set_cons_succ, List.set_cons_zero]))
        refine tree_val _ (by rfl) (by rfl) 25 #[iv y, iv 0, iv C0] (fun W hW => by go_simp; try rfl) (fun W hE hF => by exact HIY.out W) ?_
        simp only [Act.put, List.setIfInBounds_toArray, List.set_cons_succ, List.set_cons_zero]
        repeat (first | (refine tree_det (by rfl) _ (by rfl) (fun W hW => by go_simp; (try simp (disch := omega) only [IntWalk.i64_in]); try rfl) ?_; simp only [Act.put, List.setIfInBounds_toArray, List.set_cons_succ, List.set_cons_zero]) | (refine tree_skip (by rfl) (by rfl) ?_; simp only [Act.put, List.setIfInBounds_toArray, List.set_cons_succ, List.set_cons_zero]))
        intro X hE hF
        have HXX := Lib.hid (bgo HBB.out (Ext.below (show Ext [] Wb X from hE)))
        clear hE hF c3 f3 d1
        go_wp2_with fail
        go_roundw
        case rel => exact ⟨k + 1, by omega, by go_num, by rw [HSU.out], HXX.out⟩
        case measure => simp [intOf]; omega
  ·
    have HS1 := Lib.hid (show askedErr l (inB money 0 2000) = 0 from by rw [HPP.out]; exact HA1.out)
    have hmb : 0 ≤ money ∧ money ≤ 2000 := by have := HPP.out; unfold inB at this; simpa using this
    go_wp2_with fail
    clear h9I
    refine (Ledger_any (l) (tv) (.slice on l.notes.length cn) W1 (HA.out.1.below HK1.out.below (Nat.le_refl _)) (HA.out.2.below HK1.out.below (Nat.le_refl _)) (by have := HM.out.1; omega) (by have := HM.out.2; omega)).mono ?_
    rintro e W2 ⟨a2, b2, rfl, ht2, hn2, hb⟩
    have HL2 := Lib.hid (And.intro ht2 hn2)
    clear ht2 hn2
    have HK2 := Lib.hid (HK1.out.next hb)
    clear hb
    (try clear c0 f0)
    obtain ⟨c0, f0, l0⟩ := cells_of_block HK2.out.blk
    go_wp2_with fail
    refine (Safe_any l a2 b2 money W2 HL2.out.1 HL2.out.2).mono ?_
    rintro e W3 ⟨hb, ⟨hne, _⟩ | ⟨_, u3, rfl, hu3⟩⟩
    · exact absurd HS1.out hne
    rw [HR.out] at hu3
    obtain ⟨uo3, uc3, rfl⟩ := hu3.open
    have HU3 := Lib.hid hu3
    clear hu3
    have HK3 := Lib.hid (HK2.out.next hb)
    clear hb
    (try clear c0 f0)
    obtain ⟨c0, f0, l0⟩ := cells_of_block HK3.out.blk
    have HK3 := Lib.hid (HK3.out.add (T := fun W => IntsAt W (.slice uo3 R.length uc3) R) HU3.out (last_at HU3.out))
    go_wp2_with fail
    refine (Ledger_any (l) (tv) (.slice on l.notes.length cn) W3 (HA.out.1.below HK3.out.below (Nat.le_refl _)) (HA.out.2.below HK3.out.below (Nat.le_refl _)) (by have := HM.out.1; omega) (by have := HM.out.2; omega)).mono ?_
    rintro e W4 ⟨a4, b4, rfl, ht4, hn4, hb⟩
    have HL4 := Lib.hid (And.intro ht4 hn4)
    clear ht4 hn4
    have HK4 := Lib.hid (HK3.out.next hb)
    clear hb
    (try clear c0 f0)
    obtain ⟨c0, f0, l0⟩ := cells_of_block HK4.out.blk
    go_wp2_with fail
    refine (list_any ps (.slice orw ps.length crw) W4 (HRW.out.below HK4.out.below (Nat.le_refl _)) (by omega)).mono ?_
    rintro e W5 ⟨v5, rfl, ho5, hb⟩
    obtain ⟨uo5, uc5, rfl⟩ := owns_slice ho5
    have HPS := Lib.hid (ProveSafe_any l a4 b4 (.slice uo5 ps.length uc5) ps W5 (HL4.out.1.below hb (Nat.le_refl _)) (HL4.out.2.below hb (Nat.le_refl _)) (SlAt.of_owns ho5))
    rw [HIS.out.1] at HPS
    clear ho5
    have HK5 := Lib.hid (HK4.out.next hb)
    clear hb
    (try clear c0 f0)
    obtain ⟨c0, f0, l0⟩ := cells_of_block HK5.out.blk
    go_wp2_with fail
    refine HPS.out.mono ?_
    rintro e W6 ⟨rfl, hb⟩
    clear HPS
    have HK6 := Lib.hid (HK5.out.next hb)
    clear hb
    (try clear c0 f0)
    obtain ⟨c0, f0, l0⟩ := cells_of_block HK6.out.blk
    go_wp2_with fail
    refine (sure_any l tv (.slice on l.notes.length cn) W6 (HA.out.1.below HK6.out.below (Nat.le_refl _)) (HA.out.2.below HK6.out.below (Nat.le_refl _))).mono ?_
    rintro e W7 ⟨hb, ⟨hne, _⟩ | ⟨_, ev, es, rfl, hes, hmap, hesne⟩⟩
    · exact absurd (HA1.out) hne
    obtain ⟨eo, ec, rfl⟩ := hes.1.open
    have HES := Lib.hid (And.intro hes (And.intro hmap hesne))
    have hel := hes.1.len
    clear hes hmap hesne
    have HK7 := Lib.hid (HK6.out.next hb)
    clear hb
    (try clear c0 f0)
    obtain ⟨c0, f0, l0⟩ := cells_of_block HK7.out.blk
    have HK7 := Lib.hid (HK7.out.add (T := fun W => ListsAt W (.slice eo es.length ec) es) HES.out.1 (last_lists HES.out.1))
    go_wp2_with fail
    clear c0 f0
    go_loopw [12, 13] (fun v12 u W8 => ∃ k : Nat, k ≤ n ∧ u = .int .i64 k ∧ v12 = .bool (safeTo L ps k) ∧ Below W7.heap.size W7 W8) (fun _ u _ => n - (intOf u).toNat)
    case atStart => exact ⟨0, Nat.zero_le _, rfl, rfl, Below.refl _ _⟩
    case round =>
      obtain ⟨k, hk, rfl, rfl, hb⟩ := hrel
      generalize wr = W8 at *
      have HBR := Lib.hid hb
      have HK8 := Lib.hid (HK7.out.next hb)
      clear hb
      (try clear c0 f0)
      obtain ⟨c0, f0, l0⟩ := cells_of_block HK8.out.blk
      by_cases hlt : k < n
      case neg =>
        have hkn : k = n := by omega
        subst hkn
        rw [← HIS.out.2]
        have hnl : ¬ (k : Int) < ps.length := by have := HLN.out; omega
        go_wp2_with fail
        refine (zfault_any l tv (.slice on l.notes.length cn) W8 (HA.out.1.below HK8.out.below (Nat.le_refl _)) (HA.out.2.below HK8.out.below (Nat.le_refl _))).mono ?_
        rintro e W9 ⟨rfl, hb⟩
        rw [HQ.out]
        have HK9 := Lib.hid (HK8.out.next hb)
        clear hb
        (try clear c0 f0)
        obtain ⟨c0, f0, l0⟩ := cells_of_block HK9.out.blk
        go_wp2_with fail
        refine (HIN.out W9).mono ?_
        rintro e W10 ⟨rfl, hb⟩
        have HK10 := Lib.hid (HK9.out.next hb)
        clear hb
        (try clear c0 f0)
        obtain ⟨c0, f0, l0⟩ := cells_of_block HK10.out.blk
        go_wp2_with fail
        refine (zSafe_any HS.out tv (.slice on l.notes.length cn) (.slice eo es.length ec) es money L W10 (HA.out.2.below HK10.out.below (Nat.le_refl _)) HK10.out.is.1 HES.out.2.1 (by rw [HNW.out.2]; exact HLL.out.2.2.1) (by rw [HNW.out.2]; exact HLL.out.1) HLL.out.2.1 hmb).mono ?_
        rintro e W11 ⟨u11, rfl, hu11, hb⟩
        rw [← HLL.out.2.2.2 hmb.1] at hu11
        obtain ⟨uo11, uc11, rfl⟩ := hu11.open
        have HU11 := Lib.hid hu11
        clear hu11
        have HK11 := Lib.hid (HK10.out.next hb)
        clear hb
        (try clear c0 f0)
        obtain ⟨c0, f0, l0⟩ := cells_of_block HK11.out.blk
        go_wp2_with fail
        refine (same_any R R (.slice uo3 R.length uc3) (.slice uo11 R.length uc11) W11 HK11.out.is.2.1 HU11.out).mono ?_
        rw [beq_self_eq_true]
        rintro e W12 ⟨rfl, hb⟩
        have HK12 := Lib.hid (HK11.out.next hb)
        clear hb
        (try clear c0 f0)
        obtain ⟨c0, f0, l0⟩ := cells_of_block HK12.out.blk
        go_wp2_with fail
        refine (awake_any _).mono ?_
        rintro e W13 ⟨rfl, hb⟩
        have HB13 := Lib.hid (bgo HK12.out.below hb)
        clear hb
        go_wp2_with fail
        go_returns
        exact ⟨by simp, HB13.out⟩
      cases hsk : safeTo L ps k
      ·
        obtain rfl : is = false := by
          rw [HIS.out.2]
          unfold safeTo at hsk ⊢
          rw [List.all_eq_false] at hsk ⊢
          obtain ⟨i, hi, h⟩ := hsk
          exact ⟨i, List.mem_range.2 (by have := List.mem_range.1 hi; omega), h⟩
        have hltI : (k : Int) < ps.length := by have := HLN.out; omega
        clear hsk
        go_wp2_with fail
        refine (zfault_any l tv (.slice on l.notes.length cn) W8 (HA.out.1.below HK8.out.below (Nat.le_refl _)) (HA.out.2.below HK8.out.below (Nat.le_refl _))).mono ?_
        rintro e W9 ⟨rfl, hb⟩
        rw [HQ.out]
        have HK9 := Lib.hid (HK8.out.next hb)
        clear hb
        (try clear c0 f0)
        obtain ⟨c0, f0, l0⟩ := cells_of_block HK9.out.blk
        go_wp2_with fail
        refine (HIN.out W9).mono ?_
        rintro e W10 ⟨rfl, hb⟩
        have HK10 := Lib.hid (HK9.out.next hb)
        clear hb
        (try clear c0 f0)
        obtain ⟨c0, f0, l0⟩ := cells_of_block HK10.out.blk
        go_wp2_with fail
        refine (zSafe_any HS.out tv (.slice on l.notes.length cn) (.slice eo es.length ec) es money L W10 (HA.out.2.below HK10.out.below (Nat.le_refl _)) HK10.out.is.1 HES.out.2.1 (by rw [HNW.out.2]; exact HLL.out.2.2.1) (by rw [HNW.out.2]; exact HLL.out.1) HLL.out.2.1 hmb).mono ?_
        rintro e W11 ⟨u11, rfl, hu11, hb⟩
        rw [← HLL.out.2.2.2 hmb.1] at hu11
        obtain ⟨uo11, uc11, rfl⟩ := hu11.open
        have HU11 := Lib.hid hu11
        clear hu11
        have HK11 := Lib.hid (HK10.out.next hb)
        clear hb
        (try clear c0 f0)
        obtain ⟨c0, f0, l0⟩ := cells_of_block HK11.out.blk
        go_wp2_with fail
        refine (same_any R R (.slice uo3 R.length uc3) (.slice uo11 R.length uc11) W11 HK11.out.is.2.1 HU11.out).mono ?_
        rw [beq_self_eq_true]
        rintro e W12 ⟨rfl, hb⟩
        have HK12 := Lib.hid (HK11.out.next hb)
        clear hb
        (try clear c0 f0)
        obtain ⟨c0, f0, l0⟩ := cells_of_block HK12.out.blk
        go_wp2_with fail
        refine (awake_any _).mono ?_
        rintro e W13 ⟨rfl, hb⟩
        have HB13 := Lib.hid (bgo HK12.out.below hb)
        clear hb
        go_wp2_with fail
        go_returns
        exact ⟨by simp, HB13.out⟩
      ·
        have hltI : (k : Int) < ps.length := by have := HLN.out; omega
        have hkp : k < ps.length := by have := HLN.out; omega
        have hkL : k < L.length := by rw [HLL.out.1]; exact hlt
        have hlow := HLL.out.2.2.1 k hlt
        have hsu := safeTo_succ L ps k
        rw [hsk, Bool.true_and] at hsu
        rw [show ps.getD k 0 = ps[k] by simp [List.getD, hkp]] at hsu
        obtain ⟨x, hx⟩ : ∃ x, L.getD k 0 = x := ⟨_, rfl⟩
        rw [hx] at hlow hsu
        obtain ⟨b1, off1, hv1, hl1, d1⟩ := IntsAt.cell (HRW.out.below HK8.out.below (Nat.le_refl _)) hkp
        have HBO := Lib.hid (zBounds_any HS.out tv (.slice on l.notes.length cn) (.slice eo es.length ec) es k W8 (HA.out.2.below HK8.out.below (Nat.le_refl _)) HK8.out.is.1 HES.out.2.1 (by rw [HNW.out.2]; exact hlt))
        generalize ps[k] = y at *
        generalize widL emptyR (bndAs l (rowsL l) k) = A at *
        generalize widL emptyR (bndBs l (rowsL l) k) = B at *
        generalize widL emptyR (bndCs l (rowsL l) k) = C at *
        obtain ⟨A0, A1⟩ := A
        obtain ⟨B0, B1⟩ := B
        obtain ⟨C0, C1⟩ := C
        simp only at hlow
        subst hlow
        obtain ⟨z, hz⟩ : ∃ z, inB y 0 C0 = z := ⟨_, rfl⟩
        rw [hz] at hsu
        have HIY := Lib.hid (fun W : World => rIn_any y 0 C0 W)
        rw [hz] at HIY
        have HSU := Lib.hid hsu
        cases hv1
        clear hsk hsu hx hz hkL
        go_wp2_with fail
        refine HBO.out.mono ?_
        rintro e Wa ⟨rfl, hb⟩
        have HBA := Lib.hid (bgo HBR.out hb)
        have d1 := ((Ext.of_below (Ms := []) hb).cell _ _ hl1 (by simp)).trans d1
        have hl1 := Nat.lt_of_lt_of_le hl1 hb.size
        clear hb c0 f0
        go_upto_region 11 with (fail)
        refine gworld fun Wb hWb => ?_
        have hx3 : Wb.heap[Wa.heap.size + 1 + 1]? = some (.cells #[iv C0, iv C1] 27 (0, 0)) := by rw [hWb]; exact heap_new2 _ _ _ _
        have hb : Below Wa.heap.size Wa Wb := by rw [hWb]; exact bgoAlloc (bgoAlloc (bgoAlloc (Below.refl _ _) _) _) _
        have d1 := ((Ext.of_below (Ms := []) hb).cell _ _ hl1 (by simp)).trans d1
        have hl1 := Nat.lt_of_lt_of_le hl1 hb.size
        have HBB := Lib.hid (bgo HBA.out hb)
        obtain ⟨c3, f3, l3⟩ := cells_of_block hx3
        clear hb hWb hx3
        refine wp_region_rg 7 [] none [(6, Spec.val (.bool z))] (by as_aux_lemma => kernel_rfl) (by as_aux_lemma => kernel_rfl) ?_
        simp only [List.take_succ_cons, List.take_zero, List.drop_succ_cons, List.drop_zero]
        repeat (first | (refine tree_det (by rfl) _ (by rfl) (fun W hW => by go_simp; (try simp (disch := omega) only [IntWalk.i64_in]); try rfl) ?_; simp only [Act.put, List.setIfInBounds_toArray, List.set_cons_succ, List.set_cons_zero]) | (refine tree_skip (by rfl) (by rfl) ?_; simp only [Act.put, List.setIfInBounds_toArray, List.set_cons_succ, List.set_cons_zero]))
        refine tree_val _ (by rfl) (by rfl) 25 #[iv y, iv 0, iv C0] (fun W hW => by go_simp; try rfl) (fun W hE hF => by exact HIY.out W) ?_
        simp only [Act.put, List.setIfInBounds_toArray, List.set_cons_succ, List.set_cons_zero]
        repeat (first | (refine tree_det (by rfl) _ (by rfl) (fun W hW => by go_simp; (try simp (disch := omega) only [IntWalk.i64_in]); try rfl) ?_; simp only [Act.put, List.setIfInBounds_toArray, List.set_cons_succ, List.set_cons_zero]) | (refine tree_skip (by rfl) (by rfl) ?_; simp only [Act.put, List.setIfInBounds_toArray, List.set_cons_succ, List.set_cons_zero]))
        intro X hE hF
        have HXX := Lib.hid (bgo HBB.out (Ext.below (show Ext [] Wb X from hE)))
        clear hE hF c3 f3 d1
        go_wp2_with fail
        go_roundw
        case rel => exact ⟨k + 1, by omega, by go_num, by rw [HSU.out], HXX.out⟩
        case measure => simp [intOf]; omega
end Go.Proofs.YtdjgikcnmokjkaaGreat
