/-
  The walk of WageShares.
-/
import Derived.WalkKit
import Derived.WalkLawsBesides
import Derived.WalkSpells
import Derived.Outline
import Derived.Handy
import Derived.KernelRfl
import Derived.Lib.Hide
import Derived.BigRegion
import Derived.Deep.Cut
import Derived.Test.YtdjgikcnmokjkaaGreatZN
import Derived.Test.YtdjgikcnmokjkaaGreatZO
import Derived.Test.YtdjgikcnmokjkaaGreatVR
namespace Go.Proofs.YtdjgikcnmokjkaaGreat
open Go.RowKit Go.RG Go.SL Go.Shelf Cou Go.TB
set_option maxHeartbeats 400000
set_option maxRecDepth 10000

theorem rshareL_len (of : Int) (ns : List Int) : (rshareL of ns).length = ns.length := by
  unfold rshareL
  rw [(payTo_len _ _ _).1, quosL_len]

/-- A range of two cells. -/
def RcAt (W : World) (b : Nat) (r : Rng) : Prop := W.heap[b]? = some (.cells #[iv r.1, iv r.2] 27 (0, 0))

set_option maxHeartbeats 16000000 in
theorem WageShares_any (l : LedgerD) (tv nv : Value) (pot : Int) (w : World) (ht : TalliesAt w tv l.field.tallies) (hn : TriplesAt w nv l.notes) :
    Calls Tryz.prog 3 #[lv l tv nv, iv pot] w (PV (.bool true) w) := by
  have HA := Lib.hid (And.intro ht hn)
  have HR := Lib.hid (zThin_any l tv nv (w.alloc (.cells (lcells l tv nv) 30)) (ht.alloc _) (hn.alloc _))
  obtain ⟨on, cn, rfl⟩ := hn.open
  clear ht hn
  obtain ⟨rd, hrd⟩ : ∃ rd, thinL l = rd := ⟨_, rfl⟩
  rw [hrd] at HR
  have HRD := Lib.hid hrd
  clear hrd
  go_enter Tryz.func3, Tryz.ntmps3
  go_wp2_with fail
  refine HR.out.mono ?_
  rintro e W1 ⟨rfl, hb⟩
  have hk0 := (hb.block w.heap.size (by simp)).trans (heap_new0 w (.cells (lcells l tv (.slice on l.notes.length cn)) 30))
  have HB1 := Lib.hid (And.intro (show Below w.heap.size w W1 from (by repeat (first | exact Below.refl _ _ | assumption | refine bgo ?_ (by assumption) | refine bgoAlloc ?_ _ | refine bgoDrew ?_ | refine bgoSet ?_ (by simp; omega) _))) hk0)
  obtain ⟨c0, f0, l0⟩ := cells_of_block hk0
  clear hb hk0
  cases rd
  · clear c0 f0 l0
    go_wp2_with fail
    refine (awake_any _).mono ?_
    rintro e W2 ⟨rfl, hb⟩
    have HB2 := Lib.hid (bgo HB1.out.1 hb)
    clear hb
    go_wp2_with fail
    go_returns
    exact ⟨by simp, HB2.out⟩
  have HK1 := Lib.hid (Keeps.one HB1.out.1 HB1.out.2)
  obtain ⟨ht7, hn7⟩ := thin_facts HRD.out
  have HM := Lib.hid (And.intro ht7 hn7)
  clear ht7
  obtain ⟨q, hq⟩ : ∃ q, faultW l = q := ⟨_, rfl⟩
  have HQ := Lib.hid hq
  obtain ⟨P, hP⟩ : ∃ P, inB pot 0 2000 = P := ⟨_, rfl⟩
  have HPP := Lib.hid hP
  have HIN := Lib.hid (fun W : World => rIn_any pot 0 2000 W)
  rw [hP] at HIN
  clear hq hP
  by_cases hq0 : q = 0
  case neg =>
    have hqb : (q != 0) = true := by simpa using hq0
    have hqz : (q == 0) = false := by rw [beq_eq_false_iff_ne]; exact hq0
    have hqq : (q == q) = true := by simp
    have HA1 := Lib.hid (show askedErr l true = q from by unfold askedErr; rw [HQ.out, if_pos hq0])
    have HS1 := Lib.hid (show shareErr l pot = q from by unfold shareErr askedErr; rw [HQ.out, if_pos hq0, if_pos hq0])
    have HQ0 := Lib.hid hq0
    clear hq0
    go_wp2_with fail
    refine (Ledger_any (l) (tv) (.slice on l.notes.length cn) W1 (HA.out.1.below HK1.out.below (Nat.le_refl _)) (HA.out.2.below HK1.out.below (Nat.le_refl _)) (by have := HM.out.1; omega) (by have := HM.out.2; omega)).mono ?_
    rintro e W2 ⟨a2, b2, rfl, ht2, hn2, hb⟩
    have HL2 := Lib.hid (And.intro ht2 hn2)
    clear ht2 hn2
    have HK2 := Lib.hid (HK1.out.next hb)
    clear hb
    (try clear c0 f0)
    obtain ⟨c0, f0, l0⟩ := cells_of_block HK2.out.blk
    go_wp2_with fail
    refine (Share_any l a2 b2 pot W2 HL2.out.1 HL2.out.2).mono ?_
    rintro e W3 ⟨hb, ⟨_, rfl⟩ | ⟨h0, _⟩⟩
    case inr => exact absurd ((HS1.out).symm.trans h0) HQ0.out
    rw [HS1.out]
    have HK3 := Lib.hid (HK2.out.next hb)
    clear hb
    (try clear c0 f0)
    obtain ⟨c0, f0, l0⟩ := cells_of_block HK3.out.blk
    go_wp2_with fail
    refine (sure_any l tv (.slice on l.notes.length cn) W3 (HA.out.1.below HK3.out.below (Nat.le_refl _)) (HA.out.2.below HK3.out.below (Nat.le_refl _))).mono ?_
    rintro e W4 ⟨hb, ⟨_, rfl⟩ | ⟨h0, _⟩⟩
    case inr => exact absurd ((HA1.out).symm.trans h0) HQ0.out
    rw [HA1.out]
    have HK4 := Lib.hid (HK3.out.next hb)
    clear hb
    (try clear c0 f0)
    obtain ⟨c0, f0, l0⟩ := cells_of_block HK4.out.blk
    go_wp2_with fail
    refine (zfault_any l tv (.slice on l.notes.length cn) W4 (HA.out.1.below HK4.out.below (Nat.le_refl _)) (HA.out.2.below HK4.out.below (Nat.le_refl _))).mono ?_
    rintro e W5 ⟨rfl, hb⟩
    rw [HQ.out]
    have HK5 := Lib.hid (HK4.out.next hb)
    clear hb
    (try clear c0 f0)
    obtain ⟨c0, f0, l0⟩ := cells_of_block HK5.out.blk
    go_wp2_with fail
    clear c0 f0
    go_loopw [8, 9] (fun v8 u wr => v8 = iv (q) ∧ u = iv 0 ∧ Below W5.heap.size W5 wr) (fun _ _ _ => 0)
    case atStart => exact ⟨rfl, rfl, Below.refl _ _⟩
    case round =>
      obtain ⟨rfl, rfl, hB⟩ := hrel
      have HKZ := Lib.hid (HK5.out.next hB)
      clear hB
      go_wp2_with fail
      all_goals
        refine (awake_any _).mono ?_
        rintro e Wz ⟨rfl, hb⟩
        have HBZ := Lib.hid (bgo HKZ.out.below hb)
        clear hb
        go_wp2_with fail
        go_returns
        exact ⟨by simp, HBZ.out⟩
  subst hq0
  obtain ⟨hS, hpo⟩ := faultW_sound HQ.out
  cases P
  · have HS1 := Lib.hid (show shareErr l pot = 2 from by unfold shareErr askedErr; rw [HQ.out, HPP.out]; simp)
    have HAO := Lib.hid (asked_err HQ.out)
    clear hS hpo
    go_wp2_with fail
    refine (Ledger_any (l) (tv) (.slice on l.notes.length cn) W1 (HA.out.1.below HK1.out.below (Nat.le_refl _)) (HA.out.2.below HK1.out.below (Nat.le_refl _)) (by have := HM.out.1; omega) (by have := HM.out.2; omega)).mono ?_
    rintro e W2 ⟨a2, b2, rfl, ht2, hn2, hb⟩
    have HL2 := Lib.hid (And.intro ht2 hn2)
    clear ht2 hn2
    have HK2 := Lib.hid (HK1.out.next hb)
    clear hb
    (try clear c0 f0)
    obtain ⟨c0, f0, l0⟩ := cells_of_block HK2.out.blk
    go_wp2_with fail
    refine (Share_any l a2 b2 pot W2 HL2.out.1 HL2.out.2).mono ?_
    rintro e W3 ⟨hb, ⟨_, rfl⟩ | ⟨h0, _⟩⟩
    case inr => exact absurd ((HS1.out).symm.trans h0) (by decide)
    rw [HS1.out]
    have HK3 := Lib.hid (HK2.out.next hb)
    clear hb
    (try clear c0 f0)
    obtain ⟨c0, f0, l0⟩ := cells_of_block HK3.out.blk
    go_wp2_with fail
    obtain hao | hao := HAO.out
    · have HA1 := Lib.hid hao
      clear hao
      refine (sure_any l tv (.slice on l.notes.length cn) W3 (HA.out.1.below HK3.out.below (Nat.le_refl _)) (HA.out.2.below HK3.out.below (Nat.le_refl _))).mono ?_
      rintro e W4 ⟨hb, ⟨hne, _⟩ | ⟨_, ev, es, rfl, hes, hmap, hesne⟩⟩
      · exact absurd (HA1.out) hne
      obtain ⟨eo, ec, rfl⟩ := hes.1.open
      have HES := Lib.hid (And.intro hes (And.intro hmap hesne))
      have hel := hes.1.len
      clear hes hmap hesne
      have HK4 := Lib.hid (HK3.out.next hb)
      clear hb
      (try clear c0 f0)
      obtain ⟨c0, f0, l0⟩ := cells_of_block HK4.out.blk
      have HK4 := Lib.hid (HK4.out.add (T := fun W => ListsAt W (.slice eo es.length ec) es) HES.out.1 (last_lists HES.out.1))
      go_wp2_with fail
      refine (zfault_any l tv (.slice on l.notes.length cn) W4 (HA.out.1.below HK4.out.below (Nat.le_refl _)) (HA.out.2.below HK4.out.below (Nat.le_refl _))).mono ?_
      rintro e W5 ⟨rfl, hb⟩
      rw [HQ.out]
      have HK5 := Lib.hid (HK4.out.next hb)
      clear hb
      (try clear c0 f0)
      obtain ⟨c0, f0, l0⟩ := cells_of_block HK5.out.blk
      go_wp2_with fail
      refine (HIN.out W5).mono ?_
      rintro e W6 ⟨rfl, hb⟩
      have HK6 := Lib.hid (HK5.out.next hb)
      clear hb
      (try clear c0 f0)
      obtain ⟨c0, f0, l0⟩ := cells_of_block HK6.out.blk
      go_wp2_with fail
      clear c0 f0
      go_loopw [8, 9] (fun v8 u wr => v8 = iv (2) ∧ u = iv 0 ∧ Below W6.heap.size W6 wr) (fun _ _ _ => 0)
      case atStart => exact ⟨rfl, rfl, Below.refl _ _⟩
      case round =>
        obtain ⟨rfl, rfl, hB⟩ := hrel
        have HKZ := Lib.hid (HK6.out.next hB)
        clear hB
        go_wp2_with fail
        all_goals
          refine (awake_any _).mono ?_
          rintro e Wz ⟨rfl, hb⟩
          have HBZ := Lib.hid (bgo HKZ.out.below hb)
          clear hb
          go_wp2_with fail
          go_returns
          exact ⟨by simp, HBZ.out⟩
    · have HA1 := Lib.hid hao
      clear hao
      refine (sure_any l tv (.slice on l.notes.length cn) W3 (HA.out.1.below HK3.out.below (Nat.le_refl _)) (HA.out.2.below HK3.out.below (Nat.le_refl _))).mono ?_
      rintro e W4 ⟨hb, ⟨_, rfl⟩ | ⟨h0, _⟩⟩
      case inr => exact absurd ((HA1.out).symm.trans h0) (by decide)
      rw [HA1.out]
      have HK4 := Lib.hid (HK3.out.next hb)
      clear hb
      (try clear c0 f0)
      obtain ⟨c0, f0, l0⟩ := cells_of_block HK4.out.blk
      go_wp2_with fail
      refine (zfault_any l tv (.slice on l.notes.length cn) W4 (HA.out.1.below HK4.out.below (Nat.le_refl _)) (HA.out.2.below HK4.out.below (Nat.le_refl _))).mono ?_
      rintro e W5 ⟨rfl, hb⟩
      rw [HQ.out]
      have HK5 := Lib.hid (HK4.out.next hb)
      clear hb
      (try clear c0 f0)
      obtain ⟨c0, f0, l0⟩ := cells_of_block HK5.out.blk
      go_wp2_with fail
      refine (HIN.out W5).mono ?_
      rintro e W6 ⟨rfl, hb⟩
      have HK6 := Lib.hid (HK5.out.next hb)
      clear hb
      (try clear c0 f0)
      obtain ⟨c0, f0, l0⟩ := cells_of_block HK6.out.blk
      go_wp2_with fail
      clear c0 f0
      go_loopw [8, 9] (fun v8 u wr => v8 = iv (2) ∧ u = iv 0 ∧ Below W6.heap.size W6 wr) (fun _ _ _ => 0)
      case atStart => exact ⟨rfl, rfl, Below.refl _ _⟩
      case round =>
        obtain ⟨rfl, rfl, hB⟩ := hrel
        have HKZ := Lib.hid (HK6.out.next hB)
        clear hB
        go_wp2_with fail
        all_goals
          refine (awake_any _).mono ?_
          rintro e Wz ⟨rfl, hb⟩
          have HBZ := Lib.hid (bgo HKZ.out.below hb)
          clear hb
          go_wp2_with fail
          go_returns
          exact ⟨by simp, HBZ.out⟩
  obtain hao | hao := asked_err HQ.out
  case inr =>
    have HA1 := Lib.hid hao
    have HS1 := Lib.hid (show shareErr l pot = 11 from by unfold shareErr; rw [HPP.out, HA1.out]; simp)
    clear hao hS hpo
    go_wp2_with fail
    refine (Ledger_any (l) (tv) (.slice on l.notes.length cn) W1 (HA.out.1.below HK1.out.below (Nat.le_refl _)) (HA.out.2.below HK1.out.below (Nat.le_refl _)) (by have := HM.out.1; omega) (by have := HM.out.2; omega)).mono ?_
    rintro e W2 ⟨a2, b2, rfl, ht2, hn2, hb⟩
    have HL2 := Lib.hid (And.intro ht2 hn2)
    clear ht2 hn2
    have HK2 := Lib.hid (HK1.out.next hb)
    clear hb
    (try clear c0 f0)
    obtain ⟨c0, f0, l0⟩ := cells_of_block HK2.out.blk
    go_wp2_with fail
    refine (Share_any l a2 b2 pot W2 HL2.out.1 HL2.out.2).mono ?_
    rintro e W3 ⟨hb, ⟨_, rfl⟩ | ⟨h0, _⟩⟩
    case inr => exact absurd ((HS1.out).symm.trans h0) (by decide)
    rw [HS1.out]
    have HK3 := Lib.hid (HK2.out.next hb)
    clear hb
    (try clear c0 f0)
    obtain ⟨c0, f0, l0⟩ := cells_of_block HK3.out.blk
    go_wp2_with fail
    refine (sure_any l tv (.slice on l.notes.length cn) W3 (HA.out.1.below HK3.out.below (Nat.le_refl _)) (HA.out.2.below HK3.out.below (Nat.le_refl _))).mono ?_
    rintro e W4 ⟨hb, ⟨_, rfl⟩ | ⟨h0, _⟩⟩
    case inr => exact absurd ((HA1.out).symm.trans h0) (by decide)
    rw [HA1.out]
    have HK4 := Lib.hid (HK3.out.next hb)
    clear hb
    (try clear c0 f0)
    obtain ⟨c0, f0, l0⟩ := cells_of_block HK4.out.blk
    go_wp2_with fail
    refine (zfault_any l tv (.slice on l.notes.length cn) W4 (HA.out.1.below HK4.out.below (Nat.le_refl _)) (HA.out.2.below HK4.out.below (Nat.le_refl _))).mono ?_
    rintro e W5 ⟨rfl, hb⟩
    rw [HQ.out]
    have HK5 := Lib.hid (HK4.out.next hb)
    clear hb
    (try clear c0 f0)
    obtain ⟨c0, f0, l0⟩ := cells_of_block HK5.out.blk
    go_wp2_with fail
    refine (HIN.out W5).mono ?_
    rintro e W6 ⟨rfl, hb⟩
    have HK6 := Lib.hid (HK5.out.next hb)
    clear hb
    (try clear c0 f0)
    obtain ⟨c0, f0, l0⟩ := cells_of_block HK6.out.blk
    go_wp2_with fail
    clear c0 f0
    go_loopw [8, 9] (fun v8 u wr => v8 = iv (11) ∧ u = iv 0 ∧ Below W6.heap.size W6 wr) (fun _ _ _ => 0)
    case atStart => exact ⟨rfl, rfl, Below.refl _ _⟩
    case round =>
      obtain ⟨rfl, rfl, hB⟩ := hrel
      have HKZ := Lib.hid (HK6.out.next hB)
      clear hB
      go_wp2_with fail
      all_goals
        refine (awake_any _).mono ?_
        rintro e Wz ⟨rfl, hb⟩
        have HBZ := Lib.hid (bgo HKZ.out.below hb)
        clear hb
        go_wp2_with fail
        go_returns
        exact ⟨by simp, HBZ.out⟩
  have HA1 := Lib.hid hao
  have hpb : 0 ≤ pot ∧ pot ≤ 2000 := by have := HPP.out; unfold inB at this; simpa using this
  have hF := soundF_of hS.field
  obtain ⟨n, hnw⟩ : ∃ n : Nat, l.field.weeders = n := ⟨l.field.weeders.toNat, by have := hF.weed0; omega⟩
  have hwt : l.field.weeders.toNat = n := by omega
  have hn3 : n ≤ 3 := by have := hF.weed1; omega
  have HNW := Lib.hid (And.intro hnw hwt)
  obtain ⟨ns, hns⟩ : ∃ ns, noneS l (duesT l) = ns := ⟨_, rfl⟩
  have HNS := Lib.hid hns
  have hnp := none_plain hS
  rw [hns, hwt] at hnp
  have HNP := Lib.hid hnp
  have HDO := Lib.hid (fun (W : World) (tvv : Value) (t : List Int) (ht : t ∈ truthsF l.field []) (h : IntsAt W tvv t) => show Calls Tryz.prog 27 #[lv l tv (.slice on l.notes.length cn), tvv] W (fun e w' => ∃ u, e = .returned u ∧ w'.ownsRow W.heap.size 3 1 u n (intCells (doneZ n t)) ∧ Below W.heap.size W w') from by
    have := zDone_any l tv (.slice on l.notes.length cn) tvv t W h (by have := row_len hS ht; omega) (by have := hF.weed0; omega) hF.weed1
    rw [hwt] at this
    exact this)
  have HDB := Lib.hid (fun (t : List Int) (ht : t ∈ truthsF l.field []) => show ∀ x ∈ doneZ n t, 0 ≤ x ∧ x ≤ 7 from fun x hx => by have := doneZ_bd n t x hx; have := row_len hS ht; omega)
  have HPS := Lib.hid (fun (t : List Int) (ht : t ∈ truthsF l.field []) => show 0 ≤ sumI (doneZ n t) from by have := (done_sum hS ht).1; rw [hwt] at this; exact this)
  have HS := Lib.hid hS
  cases ns
  case true =>
    have HS1 := Lib.hid (show shareErr l pot = 7 from by unfold shareErr; rw [HPP.out, HA1.out, HNS.out]; simp)
    clear hao hS hpo hF hnw hwt hns hnp hpb
    go_wp2_with fail
    refine (Ledger_any (l) (tv) (.slice on l.notes.length cn) W1 (HA.out.1.below HK1.out.below (Nat.le_refl _)) (HA.out.2.below HK1.out.below (Nat.le_refl _)) (by have := HM.out.1; omega) (by have := HM.out.2; omega)).mono ?_
    rintro e W2 ⟨a2, b2, rfl, ht2, hn2, hb⟩
    have HL2 := Lib.hid (And.intro ht2 hn2)
    clear ht2 hn2
    have HK2 := Lib.hid (HK1.out.next hb)
    clear hb
    (try clear c0 f0)
    obtain ⟨c0, f0, l0⟩ := cells_of_block HK2.out.blk
    go_wp2_with fail
    refine (Share_any l a2 b2 pot W2 HL2.out.1 HL2.out.2).mono ?_
    rintro e W3 ⟨hb, ⟨_, rfl⟩ | ⟨h0, _⟩⟩
    case inr => exact absurd ((HS1.out).symm.trans h0) (by decide)
    rw [HS1.out]
    have HK3 := Lib.hid (HK2.out.next hb)
    clear hb
    (try clear c0 f0)
    obtain ⟨c0, f0, l0⟩ := cells_of_block HK3.out.blk
    go_wp2_with fail
    refine (sure_any l tv (.slice on l.notes.length cn) W3 (HA.out.1.below HK3.out.below (Nat.le_refl _)) (HA.out.2.below HK3.out.below (Nat.le_refl _))).mono ?_
    rintro e W4 ⟨hb, ⟨hne, _⟩ | ⟨_, ev, es, rfl, hes, hmap, hesne⟩⟩
    · exact absurd (HA1.out) hne
    obtain ⟨eo, ec, rfl⟩ := hes.1.open
    have HES := Lib.hid (And.intro hes (And.intro hmap hesne))
    have hel := hes.1.len
    clear hes hmap hesne
    have HK4 := Lib.hid (HK3.out.next hb)
    clear hb
    (try clear c0 f0)
    obtain ⟨c0, f0, l0⟩ := cells_of_block HK4.out.blk
    have HK4 := Lib.hid (HK4.out.add (T := fun W => ListsAt W (.slice eo es.length ec) es) HES.out.1 (last_lists HES.out.1))
    go_wp2_with fail
    refine (zfault_any l tv (.slice on l.notes.length cn) W4 (HA.out.1.below HK4.out.below (Nat.le_refl _)) (HA.out.2.below HK4.out.below (Nat.le_refl _))).mono ?_
    rintro e W5 ⟨rfl, hb⟩
    rw [HQ.out]
    have HK5 := Lib.hid (HK4.out.next hb)
    clear hb
    (try clear c0 f0)
    obtain ⟨c0, f0, l0⟩ := cells_of_block HK5.out.blk
    go_wp2_with fail
    refine (HIN.out W5).mono ?_
    rintro e W6 ⟨rfl, hb⟩
    have HK6 := Lib.hid (HK5.out.next hb)
    clear hb
    (try clear c0 f0)
    obtain ⟨c0, f0, l0⟩ := cells_of_block HK6.out.blk
    go_wp2_with fail
    clear c0 f0
    have hrw9 : rowsL l = es.map (·.2) := HES.out.2.1.symm
    have HRW := Lib.hid hrw9
    clear hrw9
    go_loopw [8, 9] (fun v8 u wr => ∃ k : Nat, k ≤ es.length ∧ u = .int .i64 k ∧ ((v8 = iv 0 ∧ ∀ j (hj : j < es.length), j < k → sumI (doneZ n es[j].2) ≠ 0) ∨ (v8 = iv 7 ∧ ∃ j, ∃ hj : j < es.length, sumI (doneZ n es[j].2) = 0)) ∧ Below W6.heap.size W6 wr) (fun _ u _ => es.length - (intOf u).toNat)
    case atStart => exact ⟨0, Nat.zero_le _, rfl, .inl ⟨rfl, fun j hj h => by omega⟩, Below.refl _ _⟩
    case round =>
      obtain ⟨k, hk, rfl, hcase, hB⟩ := hrel
      have HKR := Lib.hid (HK6.out.next hB)
      obtain ⟨c0, f0, l0'⟩ := cells_of_block HKR.out.blk
      have HX := Lib.hid hB
      clear hB
      rcases hcase with ⟨rfl, hnz⟩ | ⟨rfl, hj7⟩
      case inr =>
        clear hj7
        have HBZ0 := Lib.hid HKR.out.below
        by_cases hlt : (k : Int) < es.length
        all_goals
          go_wp2_with fail
          refine (awake_any _).mono ?_
          rintro e Wz ⟨rfl, hb⟩
          have HBZ := Lib.hid (bgo HBZ0.out hb)
          clear hb
          go_wp2_with fail
          go_returns
          exact ⟨by simp, HBZ.out⟩
      by_cases hlt : k < es.length
      ·
        have hmt := (rowsE HS.out HES.out.2.1 hlt).1
        have hia := HKR.out.is.1.2 _ (List.getElem_mem hlt)
        obtain ⟨b, off, hv, hb1, dw⟩ := ListsAt.cell HKR.out.is.1.1 hlt
        have hsu : sumI (doneZ n es[k].2) ≠ 0 → ∀ j (hj : j < es.length), j < k + 1 → sumI (doneZ n es[j].2) ≠ 0 := fun h j hj hjk => by
          by_cases e : j = k
          · subst e; exact h
          · exact hnz j hj (by omega)
        have hze : sumI (doneZ n es[k].2) = 0 → ∃ j, ∃ hj : j < es.length, sumI (doneZ n es[j].2) = 0 := fun h => ⟨k, hlt, h⟩
        clear hnz
        generalize es[k] = ee at *
        obtain ⟨vt, t⟩ := ee
        simp only at hmt hia dw hsu hze
        obtain ⟨o3, c3, rfl⟩ := hia.open
        cases hv
        have HD := Lib.hid (fun (W : World) (h : Below wr.heap.size wr W) => HDO.out W (.slice o3 t.length c3) t hmt (hia.below h (Nat.le_refl _)))
        have HDD := Lib.hid (And.intro (doneZ_len n t) (HDB.out t hmt))
        generalize doneZ n t = D at *
        obtain ⟨s, hs⟩ : ∃ s, sumI D = s := ⟨_, rfl⟩
        have HSE := Lib.hid hs
        rw [hs] at hsu hze
        have HSZ := Lib.hid (And.intro hsu hze)
        have hltI : (k : Int) < es.length := by omega
        clear hmt hia hsu hze hs
        go_wp2_with fail
        refine wp_region_rg 7 [] none [(5, ⟨fun _ v => ∃ o c, v = .slice o n c, fun _ v Wx => SlAt 1 Wx v n (intCells D)⟩), (6, Spec.val (iv s))] (by as_aux_lemma => kernel_rfl) (by as_aux_lemma => kernel_rfl) ?_
        simp only [List.take_succ_cons, List.take_zero, List.drop_succ_cons, List.drop_zero]
        repeat (first | (refine tree_det (by rfl) _ (by rfl) (fun W hW => by go_simp; (try simp (disch := omega) only [IntWalk.i64_in]); try rfl) ?_; simp only [Act.put, List.setIfInBounds_toArray, List.set_cons_succ, List.set_cons_zero]) | (refine tree_skip (by rfl) (by rfl) ?_; simp only [Act.put, List.setIfInBounds_toArray, List.set_cons_succ, List.set_cons_zero]))
        refine tree_some _ (by rfl) (by rfl) (by exact ⟨.slice none n 0, none, 0, rfl⟩) (fun Wa hE hF => ?_) (fun v Wa Wb ho hE => SlAt.below ho (Ext.below (show Ext [] Wa Wb from hE)) (Nat.le_refl _)) (fun v hv => ?_)
        · have hE' : Ext [] wr Wa := hE
          refine does_enter 27 #[lv l tv (.slice on l.notes.length cn), .slice o3 t.length c3] (by go_simp; try rfl) ?_
          refine (HD.out Wa hE'.below).mono ?_
          rintro e W' ⟨u, rfl, hu, hb⟩
          exact ⟨_, rfl, owns_slice hu, SlAt.of_owns hu, Ext.of_below hb⟩
        obtain ⟨o5, c5, rfl⟩ := hv
        simp only [Act.put, List.setIfInBounds_toArray, List.set_cons_succ, List.set_cons_zero]
        refine tree_val _ (by rfl) (by rfl) 26 #[.slice o5 n c5] (fun W hW => by go_simp; try rfl) (fun W hE hF => ?_) ?_
        · have hu : SlAt 1 W (.slice o5 n c5) n (intCells D) := hF _ (List.Mem.head _) (by kernel_rfl)
          have := zSum_any D (.slice o5 n c5) W (by unfold IntsAt; rw [HDD.out.1]; exact hu) (fun x hx => by have := HDD.out.2 x hx; omega) (by have := HDD.out.1; omega)
          rw [HSE.out] at this
          exact this
        simp only [Act.put, List.setIfInBounds_toArray, List.set_cons_succ, List.set_cons_zero]
        repeat (first | (refine tree_det (by rfl) _ (by rfl) (fun W hW => by go_simp; (try simp (disch := omega) only [IntWalk.i64_in]); try rfl) ?_; simp only [Act.put, List.setIfInBounds_toArray, List.set_cons_succ, List.set_cons_zero]) | (refine tree_skip (by rfl) (by rfl) ?_; simp only [Act.put, List.setIfInBounds_toArray, List.set_cons_succ, List.set_cons_zero]))
        intro X hE hF
        have HXX := Lib.hid (bgo HX.out (Ext.below (show Ext [] wr X from hE)))
        clear hE hF c0 f0 l0' dw
        by_cases hs0 : s = 0
        · have hsb : (s == 0) = true := by simpa using hs0
          have HZZ := Lib.hid (HSZ.out.2 hs0)
          clear hs0
          go_wp2_with fail
          go_roundw
          case rel => exact ⟨k + 1, by omega, by go_num, .inr ⟨rfl, HZZ.out⟩, HXX.out⟩
          case measure => simp [intOf]; omega
        · have hsb : (s == 0) = false := by simpa using hs0
          have HZZ := Lib.hid (HSZ.out.1 hs0)
          clear hs0
          go_wp2_with fail
          go_roundw
          case rel => exact ⟨k + 1, by omega, by go_num, .inl ⟨rfl, HZZ.out⟩, HXX.out⟩
          case measure => simp [intOf]; omega
      ·
        have hNo : (rowsL l).any (fun t => sumI (doneZ n t) == 0) = false := by
          rw [HRW.out, List.any_eq_false]
          intro t ht
          obtain ⟨x, hx, rfl⟩ := List.mem_map.1 ht
          obtain ⟨j, hj, rfl⟩ := List.mem_iff_getElem.1 hx
          have := hnz j hj (by omega)
          simpa using this
        rw [← HNP.out] at hNo
        clear hnz
        exact absurd hNo (by simp)
  have HS1 := Lib.hid (show shareErr l pot = 0 from by unfold shareErr; rw [HPP.out, HA1.out, HNS.out]; simp)
  obtain ⟨s1, s2⟩ := shares_plain HA1.out hpb HNS.out
  rw [hwt] at s1 s2
  obtain ⟨R, hR⟩ : ∃ R, shrL l pot (duesT l) = R := ⟨_, rfl⟩
  rw [hR] at s1 s2
  have HR := Lib.hid (And.intro hR (And.intro s1 s2))
  have hwnb : ((n : Int) != l.field.weeders) = false := by rw [hnw]; simp
  clear hao hS hpo hF hnw hwt hns hnp s1 s2 hR
  go_wp2_with fail
  refine (Ledger_any (l) (tv) (.slice on l.notes.length cn) W1 (HA.out.1.below HK1.out.below (Nat.le_refl _)) (HA.out.2.below HK1.out.below (Nat.le_refl _)) (by have := HM.out.1; omega) (by have := HM.out.2; omega)).mono ?_
  rintro e W2 ⟨a2, b2, rfl, ht2, hn2, hb⟩
  have HL2 := Lib.hid (And.intro ht2 hn2)
  clear ht2 hn2
  have HK2 := Lib.hid (HK1.out.next hb)
  clear hb
  (try clear c0 f0)
  obtain ⟨c0, f0, l0⟩ := cells_of_block HK2.out.blk
  go_wp2_with fail
  refine (Share_any l a2 b2 pot W2 HL2.out.1 HL2.out.2).mono ?_
  rintro e W3 ⟨hb, ⟨hne, _⟩ | ⟨_, u3, rfl, hu3⟩⟩
  · exact absurd HS1.out hne
  rw [HR.out.1] at hu3
  obtain ⟨uo3, uc3, rfl⟩ := hu3.open
  have hv3 : SlAt 2 W3 (.slice uo3 n uc3) n (pairCells R) := by have := PairsAt.at_ hu3 HR.out.2.1; rw [HR.out.2.1] at this; exact this
  rw [HR.out.2.1]
  have HV3 := Lib.hid hv3
  clear hu3 hv3
  have HK3 := Lib.hid (HK2.out.next hb)
  clear hb
  (try clear c0 f0)
  obtain ⟨c0, f0, l0⟩ := cells_of_block HK3.out.blk
  have HK3 := Lib.hid (HK3.out.add HV3.out (last_at HV3.out))
  go_wp2_with fail
  refine (sure_any l tv (.slice on l.notes.length cn) W3 (HA.out.1.below HK3.out.below (Nat.le_refl _)) (HA.out.2.below HK3.out.below (Nat.le_refl _))).mono ?_
  rintro e W4 ⟨hb, ⟨hne, _⟩ | ⟨_, ev, es, rfl, hes, hmap, hesne⟩⟩
  · exact absurd (HA1.out) hne
  obtain ⟨eo, ec, rfl⟩ := hes.1.open
  have HES := Lib.hid (And.intro hes (And.intro hmap hesne))
  have hel := hes.1.len
  clear hes hmap hesne
  have HK4 := Lib.hid (HK3.out.next hb)
  clear hb
  (try clear c0 f0)
  obtain ⟨c0, f0, l0⟩ := cells_of_block HK4.out.blk
  have HK4 := Lib.hid (HK4.out.add (T := fun W => ListsAt W (.slice eo es.length ec) es) HES.out.1 (last_lists HES.out.1))
  go_wp2_with fail
  refine (zfault_any l tv (.slice on l.notes.length cn) W4 (HA.out.1.below HK4.out.below (Nat.le_refl _)) (HA.out.2.below HK4.out.below (Nat.le_refl _))).mono ?_
  rintro e W5 ⟨rfl, hb⟩
  rw [HQ.out]
  have HK5 := Lib.hid (HK4.out.next hb)
  clear hb
  (try clear c0 f0)
  obtain ⟨c0, f0, l0⟩ := cells_of_block HK5.out.blk
  go_wp2_with fail
  refine (HIN.out W5).mono ?_
  rintro e W6 ⟨rfl, hb⟩
  have HK6 := Lib.hid (HK5.out.next hb)
  clear hb
  (try clear c0 f0)
  obtain ⟨c0, f0, l0⟩ := cells_of_block HK6.out.blk
  go_wp2_with fail
  clear hwnb
  clear c0 f0
  have hrw9 : rowsL l = es.map (·.2) := HES.out.2.1.symm
  have HRW := Lib.hid hrw9
  clear hrw9
  go_loopw [8, 9] (fun v8 u wr => ∃ k : Nat, k ≤ es.length ∧ u = .int .i64 k ∧ ((v8 = iv 0 ∧ ∀ j (hj : j < es.length), j < k → sumI (doneZ n es[j].2) ≠ 0) ∨ (v8 = iv 7 ∧ ∃ j, ∃ hj : j < es.length, sumI (doneZ n es[j].2) = 0)) ∧ Below W6.heap.size W6 wr) (fun _ u _ => es.length - (intOf u).toNat)
  case atStart => exact ⟨0, Nat.zero_le _, rfl, .inl ⟨rfl, fun j hj h => by omega⟩, Below.refl _ _⟩
  case round =>
    obtain ⟨k, hk, rfl, hcase, hB⟩ := hrel
    have HKR := Lib.hid (HK6.out.next hB)
    obtain ⟨c0, f0, l0'⟩ := cells_of_block HKR.out.blk
    have HX := Lib.hid hB
    clear hB
    rcases hcase with ⟨rfl, hnz⟩ | ⟨rfl, hj7⟩
    case inr =>
      have hYes : (rowsL l).any (fun t => sumI (doneZ n t) == 0) = true := by
        obtain ⟨j, hj, hz⟩ := hj7
        rw [HRW.out, List.any_eq_true]
        exact ⟨_, List.mem_map.2 ⟨_, List.getElem_mem hj, rfl⟩, by rw [hz]; rfl⟩
      rw [← HNP.out] at hYes
      clear hj7
      exact absurd hYes (by simp)
    by_cases hlt : k < es.length
    ·
      have hmt := (rowsE HS.out HES.out.2.1 hlt).1
      have hia := HKR.out.is.1.2 _ (List.getElem_mem hlt)
      obtain ⟨b, off, hv, hb1, dw⟩ := ListsAt.cell HKR.out.is.1.1 hlt
      have hsu : sumI (doneZ n es[k].2) ≠ 0 → ∀ j (hj : j < es.length), j < k + 1 → sumI (doneZ n es[j].2) ≠ 0 := fun h j hj hjk => by
        by_cases e : j = k
        · subst e; exact h
        · exact hnz j hj (by omega)
      have hze : sumI (doneZ n es[k].2) = 0 → ∃ j, ∃ hj : j < es.length, sumI (doneZ n es[j].2) = 0 := fun h => ⟨k, hlt, h⟩
      clear hnz
      generalize es[k] = ee at *
      obtain ⟨vt, t⟩ := ee
      simp only at hmt hia dw hsu hze
      obtain ⟨o3, c3, rfl⟩ := hia.open
      cases hv
      have HD := Lib.hid (fun (W : World) (h : Below wr.heap.size wr W) => HDO.out W (.slice o3 t.length c3) t hmt (hia.below h (Nat.le_refl _)))
      have HDD := Lib.hid (And.intro (doneZ_len n t) (HDB.out t hmt))
      generalize doneZ n t = D at *
      obtain ⟨s, hs⟩ : ∃ s, sumI D = s := ⟨_, rfl⟩
      have HSE := Lib.hid hs
      rw [hs] at hsu hze
      have HSZ := Lib.hid (And.intro hsu hze)
      have hltI : (k : Int) < es.length := by omega
      clear hmt hia hsu hze hs
      go_wp2_with fail
      refine wp_region_rg 7 [] none [(5, ⟨fun _ v => ∃ o c, v = .slice o n c, fun _ v Wx => SlAt 1 Wx v n (intCells D)⟩), (6, Spec.val (iv s))] (by as_aux_lemma => kernel_rfl) (by as_aux_lemma => kernel_rfl) ?_
      simp only [List.take_succ_cons, List.take_zero, List.drop_succ_cons, List.drop_zero]
      repeat (first | (refine tree_det (by rfl) _ (by rfl) (fun W hW => by go_simp; (try simp (disch := omega) only [IntWalk.i64_in]); try rfl) ?_; simp only [Act.put, List.setIfInBounds_toArray, List.set_cons_succ, List.set_cons_zero]) | (refine tree_skip (by rfl) (by rfl) ?_; simp only [Act.put, List.setIfInBounds_toArray, List.set_cons_succ, List.set_cons_zero]))
      refine tree_some _ (by rfl) (by rfl) (by exact ⟨.slice none n 0, none, 0, rfl⟩) (fun Wa hE hF => ?_) (fun v Wa Wb ho hE => SlAt.below ho (Ext.below (show Ext [] Wa Wb from hE)) (Nat.le_refl _)) (fun v hv => ?_)
      · have hE' : Ext [] wr Wa := hE
        refine does_enter 27 #[lv l tv (.slice on l.notes.length cn), .slice o3 t.length c3] (by go_simp; try rfl) ?_
        refine (HD.out Wa hE'.below).mono ?_
        rintro e W' ⟨u, rfl, hu, hb⟩
        exact ⟨_, rfl, owns_slice hu, SlAt.of_owns hu, Ext.of_below hb⟩
      obtain ⟨o5, c5, rfl⟩ := hv
      simp only [Act.put, List.setIfInBounds_toArray, List.set_cons_succ, List.set_cons_zero]
      refine tree_val _ (by rfl) (by rfl) 26 #[.slice o5 n c5] (fun W hW => by go_simp; try rfl) (fun W hE hF => ?_) ?_
      · have hu : SlAt 1 W (.slice o5 n c5) n (intCells D) := hF _ (List.Mem.head _) (by kernel_rfl)
        have := zSum_any D (.slice o5 n c5) W (by unfold IntsAt; rw [HDD.out.1]; exact hu) (fun x hx => by have := HDD.out.2 x hx; omega) (by have := HDD.out.1; omega)
        rw [HSE.out] at this
        exact this
      simp only [Act.put, List.setIfInBounds_toArray, List.set_cons_succ, List.set_cons_zero]
      repeat (first | (refine tree_det (by rfl) _ (by rfl) (fun W hW => by go_simp; (try simp (disch := omega) only [IntWalk.i64_in]); try rfl) ?_; simp only [Act.put, List.setIfInBounds_toArray, List.set_cons_succ, List.set_cons_zero]) | (refine tree_skip (by rfl) (by rfl) ?_; simp only [Act.put, List.setIfInBounds_toArray, List.set_cons_succ, List.set_cons_zero]))
      intro X hE hF
      have HXX := Lib.hid (bgo HX.out (Ext.below (show Ext [] wr X from hE)))
      clear hE hF c0 f0 l0' dw
      by_cases hs0 : s = 0
      · have hsb : (s == 0) = true := by simpa using hs0
        have HZZ := Lib.hid (HSZ.out.2 hs0)
        clear hs0
        go_wp2_with fail
        go_roundw
        case rel => exact ⟨k + 1, by omega, by go_num, .inr ⟨rfl, HZZ.out⟩, HXX.out⟩
        case measure => simp [intOf]; omega
      · have hsb : (s == 0) = false := by simpa using hs0
        have HZZ := Lib.hid (HSZ.out.1 hs0)
        clear hs0
        go_wp2_with fail
        go_roundw
        case rel => exact ⟨k + 1, by omega, by go_num, .inl ⟨rfl, HZZ.out⟩, HXX.out⟩
        case measure => simp [intOf]; omega
    · have HNZ := Lib.hid (fun (j : Nat) (hj : j < es.length) => hnz j hj (by omega))
      clear hnz
      have hwnb : ((n : Int) != l.field.weeders) = false := by rw [HNW.out.1]; simp
      have hnlI : ¬ (k : Int) < es.length := by omega
      generalize wr = V at *
      go_wp2_with fail
      clear c0 f0 hwnb hnlI
      go_loopw [10] (fun u wr => ∃ i : Nat, i ≤ n ∧ u = .int .i64 i ∧ Below V.heap.size V wr) (fun u _ => n - (intOf u).toNat)
      case atStart => exact ⟨0, Nat.zero_le _, rfl, Below.refl _ _⟩
      case round =>
        obtain ⟨i, hi, rfl, hB⟩ := hrel
        have HKS := Lib.hid (HKR.out.next hB)
        by_cases hin : i < n
        case neg =>
          have hinI : ¬ (i : Int) < n := by omega
          clear hB
          go_wp2_with fail
          refine (awake_any _).mono ?_
          rintro e Wz ⟨rfl, hb⟩
          have HBZ := Lib.hid (bgo HKS.out.below hb)
          clear hb
          go_wp2_with fail
          go_returns
          exact ⟨by simp, HBZ.out⟩
        have hinI : (i : Int) < n := by omega
        have hsp : widL emptyR (es.map fun x => (rshareL pot (doneZ n x.2)).getD i 0) = R.getD i (0, 0) := by
          rw [← HR.out.2.2 i hin, ← HES.out.2.1, List.map_map]; rfl
        have hiR : i < R.length := by rw [HR.out.2.1]; exact hin
        have hgR : R.getD i (0, 0) = R[i] := by simp [List.getD, hiR]
        rw [hgR] at hsp
        have HSP := Lib.hid hsp
        clear hsp hgR
        go_wp2_with fail
        refine (zEmpty_any wr).mono ?_
        rintro e Wa ⟨rfl, hb⟩
        have HKA := Lib.hid (HKS.out.next hb)
        have HBA := Lib.hid (bgo hB hb)
        clear hb hB
        go_upto_region 20 with (fail)
        refine gworld fun Wb hWb => ?_
        obtain ⟨br, hbr⟩ : ∃ g, Wa.heap.size = g := ⟨_, rfl⟩
        have hr0 : RcAt Wb br emptyR := by rw [hWb, ← hbr]; exact heap_new0 _ _
        have hB4 : Below Wa.heap.size Wa Wb := by rw [hWb]; exact bgoAlloc (Below.refl _ _) _
        have n7 : Wa.heap.size ≤ br := by omega
        rw [hbr]
        have H4 := Lib.hid (And.intro hr0 hB4)
        clear hWb hr0 hB4 hbr
        go_wp2_with fail
        go_loopw [12] (fun u wr => ∃ j : Nat, j ≤ es.length ∧ u = .int .i64 j ∧ RcAt wr br (widL emptyR ((es.map fun x => (rshareL pot (doneZ n x.2)).getD i 0).take j)) ∧ Below Wa.heap.size Wa wr) (fun u _ => es.length - (intOf u).toNat)
        case atStart => exact ⟨0, Nat.zero_le _, rfl, H4.out.1, H4.out.2⟩
        case round =>
          obtain ⟨j, hj, rfl, hra, hB⟩ := hrel
          have HKQ := Lib.hid (HKA.out.next hB)
          by_cases hjl : j < es.length
          case neg =>
            have htk : (es.map fun x => (rshareL pot (doneZ n x.2)).getD i 0).take j = es.map fun x => (rshareL pot (doneZ n x.2)).getD i 0 := List.take_of_length_le (by rw [List.length_map]; omega)
            rw [htk, HSP.out] at hra
            have hnj : ¬ (j : Int) < es.length := by omega
            obtain ⟨gR, oR, hR1, jR, p0, p1⟩ := PairsAt.cell HKQ.out.is.2.1 hiR
            generalize R[i] = r at *
            obtain ⟨r0, r1⟩ := r
            obtain ⟨cr, fr, lr⟩ := cells_of_block hra
            simp only at p0 p1 cr
            cases hR1
            have HB9 := Lib.hid (bgo HBA.out hB)
            clear htk hra hB
            go_wp2_with fail
            refine wp_region_rg 7 [] none [(5, Spec.val (rv (r0, r1)))] (by as_aux_lemma => kernel_rfl) (by as_aux_lemma => kernel_rfl) ?_
            simp only [List.take_succ_cons, List.take_zero, List.drop_succ_cons, List.drop_zero]
            repeat (first | (refine tree_det (by rfl) _ (by rfl) (fun W hW => by go_simp; (try simp (disch := omega) only [IntWalk.i64_in]); try rfl) ?_; simp only [Act.put, List.setIfInBounds_toArray, List.set_cons_succ, List.set_cons_zero]) | (refine tree_skip (by rfl) (by rfl) ?_; simp only [Act.put, List.setIfInBounds_toArray, List.set_cons_succ, List.set_cons_zero]))
            refine tree_val _ (by rfl) (by rfl) 31 #[rv (r0, r1)] (fun W hW => by go_simp; try rfl) (fun W hE hF => by exact zto_any _ W) ?_
            simp only [Act.put, List.setIfInBounds_toArray, List.set_cons_succ, List.set_cons_zero]
            repeat (first | (refine tree_det (by rfl) _ (by rfl) (fun W hW => by go_simp; (try simp (disch := omega) only [IntWalk.i64_in]); try rfl) ?_; simp only [Act.put, List.setIfInBounds_toArray, List.set_cons_succ, List.set_cons_zero]) | (refine tree_skip (by rfl) (by rfl) ?_; simp only [Act.put, List.setIfInBounds_toArray, List.set_cons_succ, List.set_cons_zero]))
            intro X hE hF
            have HXX := Lib.hid (bgo HB9.out (Ext.below (show Ext [] wr X from hE)))
            clear hE hF
            go_wp2_with fail
            go_roundw
            case rel => exact ⟨i + 1, by omega, by go_num, HXX.out⟩
            case measure => simp [intOf]; omega
          obtain ⟨c0, f0, l0''⟩ := cells_of_block HKQ.out.blk
          have hmt := (rowsE HS.out HES.out.2.1 hjl).1
          have hia := HKQ.out.is.1.2 _ (List.getElem_mem hjl)
          obtain ⟨b, off, hv, hb1, dw⟩ := ListsAt.cell HKQ.out.is.1.1 hjl
          have htk : widL emptyR ((es.map fun x => (rshareL pot (doneZ n x.2)).getD i 0).take (j + 1)) = wid (widL emptyR ((es.map fun x => (rshareL pot (doneZ n x.2)).getD i 0).take j)) ((rshareL pot (doneZ n es[j].2)).getD i 0) := by
            rw [List.take_succ_eq_append_getElem (by simpa using hjl), widL_snoc, List.getElem_map]
          have hps := HNZ.out j hjl
          generalize es[j] = ee at *
          obtain ⟨vt, t⟩ := ee
          simp only at hmt hia dw htk hps
          obtain ⟨o3, c3, rfl⟩ := hia.open
          cases hv
          have HD := Lib.hid (fun (W : World) (h : Below wr.heap.size wr W) => HDO.out W (.slice o3 t.length c3) t hmt (hia.below h (Nat.le_refl _)))
          have HDD := Lib.hid (And.intro (doneZ_len n t) (HDB.out t hmt))
          have hp0 := HPS.out t hmt
          generalize doneZ n t = D at *
          have HSH := Lib.hid (fun (W : World) (v : Value) (h : IntsAt W v D) => zShare_any pot D v W h hpb (by omega) (fun z hz => by have := HDD.out.2 z hz; omega) (by have := HDD.out.1; omega))
          have hSl : (rshareL pot D).length = n := by rw [rshareL_len, HDD.out.1]
          generalize rshareL pot D = S at *
          obtain ⟨rj, hrj⟩ : ∃ r, widL emptyR ((es.map fun x => (rshareL pot (doneZ n x.2)).getD i 0).take j) = r := ⟨_, rfl⟩
          rw [hrj] at hra htk
          obtain ⟨rj0, rj1⟩ := rj
          obtain ⟨cr, fr, lr⟩ := cells_of_block hra
          simp only at cr
          have hiS : i < S.length := by omega
          have hgS : S.getD i 0 = S[i] := by simp [List.getD, hiS]
          rw [hgS] at htk
          obtain ⟨x, hxS⟩ : ∃ x, S[i] = x := ⟨_, rfl⟩
          rw [hxS] at htk
          have HXS := Lib.hid hxS
          clear hxS
          have HTK := Lib.hid (And.intro htk hSl)
          have HRA := Lib.hid (And.intro hra hB)
          have hjlI : (j : Int) < es.length := by omega
          clear hmt hia htk hSl hra hB hrj hp0 hps hgS
          go_wp2_with fail
          refine wp_region_rg 12 [] none [(7, ⟨fun _ v => ∃ o c, v = .slice o n c, fun _ v Wx => SlAt 1 Wx v n (intCells D)⟩), (8, ⟨fun _ v => ∃ gB gO gC, v = .slice (some ⟨gB, gO, none⟩) n gC, fun _ v Wx => ∃ gB gO gC, v = .slice (some ⟨gB, gO, none⟩) n gC ∧ gB < Wx.heap.size ∧ Wx.cell? ⟨gB, gO + i, none⟩ = some (iv x)⟩)] (by as_aux_lemma => kernel_rfl) (by as_aux_lemma => kernel_rfl) ?_
          simp only [List.take_succ_cons, List.take_zero, List.drop_succ_cons, List.drop_zero]
          repeat (first | (refine tree_det (by rfl) _ (by rfl) (fun W hW => by go_simp; (try simp (disch := omega) only [IntWalk.i64_in]); try rfl) ?_; simp only [Act.put, List.setIfInBounds_toArray, List.set_cons_succ, List.set_cons_zero]) | (refine tree_skip (by rfl) (by rfl) ?_; simp only [Act.put, List.setIfInBounds_toArray, List.set_cons_succ, List.set_cons_zero]))
          refine tree_some _ (by rfl) (by rfl) (by exact ⟨.slice none n 0, none, 0, rfl⟩) (fun Wx hE hF => ?_) (fun v Wx Wy ho hE => SlAt.below ho (Ext.below (show Ext [] Wx Wy from hE)) (Nat.le_refl _)) (fun v hv => ?_)
          · have hE' : Ext [] wr Wx := hE
            refine does_enter 27 #[lv l tv (.slice on l.notes.length cn), .slice o3 t.length c3] (by go_simp; try rfl) ?_
            refine (HD.out Wx hE'.below).mono ?_
            rintro e W' ⟨u, rfl, hu, hb⟩
            exact ⟨_, rfl, owns_slice hu, SlAt.of_owns hu, Ext.of_below hb⟩
          obtain ⟨o5, c5, rfl⟩ := hv
          simp only [Act.put, List.setIfInBounds_toArray, List.set_cons_succ, List.set_cons_zero]
          refine tree_some _ (by rfl) (by rfl) (by exact ⟨.slice (some ⟨0, 0, none⟩) n 0, 0, 0, 0, rfl⟩) (fun Wx hE hF => ?_) (fun v Wx Wy ho hE => ?_) (fun v hv => ?_)
          · have hu : SlAt 1 Wx (.slice o5 n c5) n (intCells D) := hF _ (List.Mem.head _) (by kernel_rfl)
            refine does_enter 30 #[iv pot, .slice o5 n c5] (by go_simp; try rfl) ?_
            refine (HSH.out Wx (.slice o5 n c5) (by unfold IntsAt; rw [HDD.out.1]; exact hu)).mono ?_
            rintro e W' ⟨u, rfl, hu, hb⟩
            rw [HTK.out.2] at hu
            obtain ⟨o6, c6, rfl⟩ := owns_slice hu
            obtain ⟨gB, gO, hgv, hgl, hgc⟩ := IntsAt.cell (SlAt.of_owns hu) hiS
            rw [HXS.out] at hgc
            cases hgv
            exact ⟨_, rfl, ⟨_, _, _, rfl⟩, ⟨_, _, _, rfl, hgl, hgc⟩, Ext.of_below hb⟩
          · obtain ⟨gB, gO, gC, rfl, h1, h2⟩ := ho
            have hE' : Ext [] Wx Wy := hE
            exact ⟨_, _, _, rfl, by have := hE'.size; omega, (hE'.cell _ _ h1 (by simp)).trans h2⟩
          obtain ⟨gB, gO, gC, rfl⟩ := hv
          simp only [Act.put, List.setIfInBounds_toArray, List.set_cons_succ, List.set_cons_zero]
          repeat (first | (refine tree_det (by rfl) _ (by rfl) (fun W hW => by go_simp; (try simp (disch := omega) only [IntWalk.i64_in]); try rfl) ?_; simp only [Act.put, List.setIfInBounds_toArray, List.set_cons_succ, List.set_cons_zero]) | (refine tree_skip (by rfl) (by rfl) ?_; simp only [Act.put, List.setIfInBounds_toArray, List.set_cons_succ, List.set_cons_zero]))
          refine tree_det_on (by rfl) (iv x) (by rfl) (fun W hE hF => ?_) ?_
          · obtain ⟨gB', gO', gC', he, h1, h2⟩ := hF _ (List.Mem.head _) (by kernel_rfl)
            cases he
            go_simp
            try rfl
          simp only [Act.put, List.setIfInBounds_toArray, List.set_cons_succ, List.set_cons_zero]
          repeat (first | (refine tree_det (by rfl) _ (by rfl) (fun W hW => by go_simp; (try simp (disch := omega) only [IntWalk.i64_in]); try rfl) ?_; simp only [Act.put, List.setIfInBounds_toArray, List.set_cons_succ, List.set_cons_zero]) | (refine tree_skip (by rfl) (by rfl) ?_; simp only [Act.put, List.setIfInBounds_toArray, List.set_cons_succ, List.set_cons_zero]))
          intro X hE hF
          have hEX : Ext [] wr X := hE
          have HX9 := Lib.hid (And.intro (show RcAt X br (rj0, rj1) from (hEX.below.block br lr).trans HRA.out.1) (bgo HRA.out.2 hEX.below))
          clear hE hF hEX c0 f0 l0'' cr fr lr dw
          go_wp2_with fail
          refine (zWider_any (rj0, rj1) x X).mono ?_
          rintro e Y ⟨rfl, hb⟩
          have hraY : RcAt Y br (rj0, rj1) := (hb.block br (cells_of_block HX9.out.1).2.2).trans HX9.out.1
          obtain ⟨cr, fr, lr⟩ := cells_of_block hraY
          have HY := Lib.hid (And.intro hraY (bgo HX9.out.2 hb))
          clear hb hraY
          go_upto_region 22 with (fail)
          refine gworld fun Z hZ => ?_
          have HZ := Lib.hid (And.intro (show RcAt Z br (wid (rj0, rj1) x) from by rw [hZ]; exact set_two HY.out.1 _ _) (show Below Wa.heap.size Wa Z from by rw [hZ]; exact bgoSet (bgoSet HY.out.2 n7 _) n7 _))
          clear hZ cr fr lr
          go_wp2_with fail
          go_roundw
          case rel => exact ⟨j + 1, by omega, by go_num, by rw [HTK.out.1]; exact HZ.out.1, HZ.out.2⟩
          case measure => simp [intOf]; omega
end Go.Proofs.YtdjgikcnmokjkaaGreat
