/-
  The walk of WageEnds.
-/
import Derived.WalkKit
import Derived.WalkLawsBesides
import Derived.WalkSpells
import Derived.Outline
import Derived.Handy
import Derived.KernelRfl
import Derived.Lib.Hide
import Derived.BigRegion
import Derived.Deep.Cut
import Derived.Test.YtdjgikcnmokjkaaGreatZN
import Derived.Test.YtdjgikcnmokjkaaGreatVS
namespace Go.Proofs.YtdjgikcnmokjkaaGreat
open Go.RowKit Go.RG Go.SL Go.Shelf Cou Go.TB
set_option maxHeartbeats 400000
set_option maxRecDepth 10000

theorem boolCells_at {W : World} {b : Nat} {E : List Bool} {t : TypeId} {fr : Nat × Nat} (h : W.heap[b]? = some (.cells (E.map Value.bool).toArray t fr)) {m : Nat} (hm : m < E.length) : W.cell? ⟨b, m, none⟩ = some (.bool (E.getD m false)) := by
  simp only [World.cell?, h]
  simp [List.getD, hm]
theorem sub_bd {a b : Int} (ha : 0 ≤ a ∧ a ≤ 2000) (hb : 0 ≤ b ∧ b ≤ 2000) : -2000 ≤ a - b ∧ a - b ≤ 2000 := by omega

theorem set_six {w : World} {b : Nat} {t : TypeId} {fr : Nat × Nat} {a0 a1 a2 a3 a4 a5 : Value} (h : w.heap[b]? = some (.cells #[a0, a1, a2, a3, a4, a5] t fr)) (y0 y1 y2 y3 y4 y5 : Value) : ((((((w.setCell ⟨b, 0, none⟩ y0).setCell ⟨b, 1, none⟩ y1).setCell ⟨b, 2, none⟩ y2).setCell ⟨b, 3, none⟩ y3).setCell ⟨b, 4, none⟩ y4).setCell ⟨b, 5, none⟩ y5).heap[b]? = some (.cells #[y0, y1, y2, y3, y4, y5] t fr) := by
  have k := set_block (o := 5) (set_block (o := 4) (set_block (o := 3) (set_block (o := 2) (set_block (o := 1) (set_block (o := 0) h y0) y1) y2) y3) y4) y5
  simpa using k

set_option maxHeartbeats 16000000 in
theorem WageEnds_any (l : LedgerD) (tv nv : Value) (wh : Int) (w : World) (ht : TalliesAt w tv l.field.tallies) (hn : TriplesAt w nv l.notes) (h2 : 0 ≤ wh ∧ wh ≤ 255) :
    Calls Tryz.prog 11 #[lv l tv nv, .int .u8 wh] w (PV (.bool true) w) := by
  have HA := Lib.hid (And.intro ht hn)
  have HR := Lib.hid (ready_any l tv nv (w.alloc (.cells (lcells l tv nv) 30)) (ht.alloc _) (hn.alloc _))
  obtain ⟨on, cn, rfl⟩ := hn.open
  clear ht hn
  obtain ⟨rd, hrd⟩ : ∃ rd, readyL l = rd := ⟨_, rfl⟩
  rw [hrd] at HR
  have HRD := Lib.hid hrd
  clear hrd
  go_enter Tryz.func11, Tryz.ntmps11
  go_wp2_with fail
  refine HR.out.mono ?_
  rintro e W1 ⟨rfl, hb⟩
  have hk0 := (hb.block w.heap.size (by simp)).trans (heap_new0 w (.cells (lcells l tv (.slice on l.notes.length cn)) 30))
  have HB1 := Lib.hid (And.intro (show Below w.heap.size w W1 from (by repeat (first | exact Below.refl _ _ | assumption | refine bgo ?_ (by assumption) | refine bgoAlloc ?_ _ | refine bgoDrew ?_ | refine bgoSet ?_ (by simp; omega) _))) hk0)
  obtain ⟨c0, f0, l0⟩ := cells_of_block hk0
  clear hb hk0
  cases rd
  · clear c0 f0 l0
    go_wp2_with fail
    refine (awake_any _).mono ?_
    rintro e W2 ⟨rfl, hb⟩
    have HB2 := Lib.hid (bgo HB1.out.1 hb)
    clear hb
    go_wp2_with fail
    go_returns
    exact ⟨by simp, HB2.out⟩
  obtain ⟨hz, hS, ht5, hn5, _, _⟩ := readyL_facts HRD.out
  have hw0 := (soundF_of hS.field).weed0
  have hw3 := (soundF_of hS.field).weed1
  have HM := Lib.hid (And.intro hz (And.intro hS (And.intro ht5 (And.intro hn5 (And.intro hw0 hw3)))))
  clear hz hS ht5 hw0 hw3
  have HK1 := Lib.hid (Keeps.one HB1.out.1 HB1.out.2)
  obtain ⟨n, hnw⟩ : ∃ n : Nat, l.field.weeders = n := ⟨l.field.weeders.toNat, by have := HM.out.2.2.2.2.1; omega⟩
  have hwt : l.field.weeders.toNat = n := by omega
  have hn3 : n ≤ 3 := by have := HM.out.2.2.2.2.2; omega
  have hn1 : 1 ≤ n := by have := HM.out.2.2.2.2.1; omega
  have HNW := Lib.hid (And.intro hnw hwt)
  obtain ⟨K, hK, hKn⟩ : ∃ K : Nat, wh.tmod l.field.weeders = (K : Int) ∧ K < n := by
    rw [hnw, Int.tmod_eq_emod_of_nonneg h2.1]
    have g1 := Int.emod_nonneg wh (show (n : Int) ≠ 0 by omega)
    have g2 := Int.emod_lt_of_pos wh (show (0 : Int) < n by omega)
    exact ⟨(wh % (n : Int)).toNat, by omega, by omega⟩
  have hwz : (l.field.weeders == 0) = false := by rw [beq_eq_false_iff_ne]; omega
  have hwz' : ¬ l.field.weeders = 0 := by omega
  obtain hao | hao := asked_err HM.out.1
  case inr =>
    have HA1 := Lib.hid hao
    have hpn : rowsL l = [] := by
      rw [rowsL_none HM.out.2.1]
      have := HA1.out
      unfold askedErr at this
      rw [HM.out.1] at this
      simp only [ne_eq, not_true_eq_false, if_false, Bool.true_eq_false] at this
      split at this
      · assumption
      · omega
    have HPN := Lib.hid hpn
    clear hao hpn hnw
    go_wp2_with fail
    refine (Ledger_any (l) (tv) (.slice on l.notes.length cn) W1 (HA.out.1.below HK1.out.below (Nat.le_refl _)) (HA.out.2.below HK1.out.below (Nat.le_refl _)) (by have := HM.out.2.2.1; omega) (by have := HM.out.2.2.2.1; omega)).mono ?_
    rintro e W2 ⟨a2, b2, rfl, ht2, hn2, hb⟩
    have HL2 := Lib.hid (And.intro ht2 hn2)
    clear ht2 hn2
    have HK2 := Lib.hid (HK1.out.next hb)
    clear hb
    (try clear c0 f0)
    obtain ⟨c0, f0, l0⟩ := cells_of_block HK2.out.blk
    go_wp2_with fail
    refine (Earned_any l a2 b2 W2 HL2.out.1 HL2.out.2).mono ?_
    rintro e W3 ⟨hb, ⟨_, rfl⟩ | ⟨h0, _⟩⟩
    case inr => exact absurd ((HA1.out).symm.trans h0) (by decide)
    rw [HA1.out]
    have HK3 := Lib.hid (HK2.out.next hb)
    clear hb
    (try clear c0 f0)
    obtain ⟨c0, f0, l0⟩ := cells_of_block HK3.out.blk
    go_wp2_with fail
    refine (Ledger_any (l) (tv) (.slice on l.notes.length cn) W3 (HA.out.1.below HK3.out.below (Nat.le_refl _)) (HA.out.2.below HK3.out.below (Nat.le_refl _)) (by have := HM.out.2.2.1; omega) (by have := HM.out.2.2.2.1; omega)).mono ?_
    rintro e W4 ⟨a4, b4, rfl, ht4, hn4, hb⟩
    have HL4 := Lib.hid (And.intro ht4 hn4)
    clear ht4 hn4
    have HK4 := Lib.hid (HK3.out.next hb)
    clear hb
    (try clear c0 f0)
    obtain ⟨c0, f0, l0⟩ := cells_of_block HK4.out.blk
    go_wp2_with fail
    refine (Paid_any l a4 b4 W4 HL4.out.1 HL4.out.2).mono ?_
    rintro e W5 ⟨hb, ⟨_, rfl⟩ | ⟨h0, _⟩⟩
    case inr => exact absurd ((HA1.out).symm.trans h0) (by decide)
    rw [HA1.out]
    have HK5 := Lib.hid (HK4.out.next hb)
    clear hb
    (try clear c0 f0)
    obtain ⟨c0, f0, l0⟩ := cells_of_block HK5.out.blk
    go_wp2_with fail
    refine (Ledger_any (l) (tv) (.slice on l.notes.length cn) W5 (HA.out.1.below HK5.out.below (Nat.le_refl _)) (HA.out.2.below HK5.out.below (Nat.le_refl _)) (by have := HM.out.2.2.1; omega) (by have := HM.out.2.2.2.1; omega)).mono ?_
    rintro e W6 ⟨a6, b6, rfl, ht6, hn6, hb⟩
    have HL6 := Lib.hid (And.intro ht6 hn6)
    clear ht6 hn6
    have HK6 := Lib.hid (HK5.out.next hb)
    clear hb
    (try clear c0 f0)
    obtain ⟨c0, f0, l0⟩ := cells_of_block HK6.out.blk
    go_wp2_with fail
    refine (Owed_any l a6 b6 W6 HL6.out.1 HL6.out.2).mono ?_
    rintro e W7 ⟨hb, ⟨_, rfl⟩ | ⟨h0, _⟩⟩
    case inr => exact absurd ((HA1.out).symm.trans h0) (by decide)
    rw [HA1.out]
    have HK7 := Lib.hid (HK6.out.next hb)
    clear hb
    (try clear c0 f0)
    obtain ⟨c0, f0, l0⟩ := cells_of_block HK7.out.blk
    go_wp2_with fail
    refine (zRows_any (HM.out.2.1) tv (.slice on l.notes.length cn) W7 (HA.out.1.below HK7.out.below (Nat.le_refl _)) (HA.out.2.below HK7.out.below (Nat.le_refl _))).mono ?_
    rintro e W8 ⟨ev, es, rfl, hes, hmap, hb⟩
    obtain ⟨eo, ec, rfl⟩ := hes.1.open
    have HES := Lib.hid (And.intro hes hmap)
    have hel := hes.1.len
    clear hes hmap
    have HK8 := Lib.hid (HK7.out.next hb)
    clear hb
    (try clear c0 f0)
    obtain ⟨c0, f0, l0⟩ := cells_of_block HK8.out.blk
    have HK8 := Lib.hid (HK8.out.add (T := fun W => ListsAt W (.slice eo es.length ec) es) HES.out.1 (last_lists HES.out.1))
    have hl0 : es.length = 0 := by have := congrArg List.length HES.out.2; rw [HPN.out, List.length_map] at this; exact this
    have hl0b : ((es.length : Int) == 0) = true := by rw [hl0]; rfl
    go_wp2_with fail
    refine (awake_any _).mono ?_
    rintro e W9 ⟨rfl, hb⟩
    have HB9 := Lib.hid (bgo HK8.out.below hb)
    clear hb
    go_wp2_with fail
    go_returns
    exact ⟨by simp, HB9.out⟩
  have HA1 := Lib.hid hao
  obtain ⟨hS, hsm⟩ := asked_ok hao
  have k1 : (bndL partE l (duesT l)).length = n := by rw [least_len hS hsm]; exact hwt
  have k2 : (bndL partP l (duesT l)).length = n := by rw [least_len hS hsm]; exact hwt
  have k3 : (bndL partO l (duesT l)).length = n := by rw [least_len hS hsm]; exact hwt
  have hpl := ends_plain hao (w := K) (by omega)
  obtain ⟨R1, hR1⟩ : ∃ R, bndL partE l (duesT l) = R := ⟨_, rfl⟩
  obtain ⟨R2, hR2⟩ : ∃ R, bndL partP l (duesT l) = R := ⟨_, rfl⟩
  obtain ⟨R3, hR3⟩ : ∃ R, bndL partO l (duesT l) = R := ⟨_, rfl⟩
  rw [hR1] at k1 hpl
  rw [hR2] at k2 hpl
  rw [hR3] at k3 hpl
  have HR1 := Lib.hid (And.intro hR1 k1)
  have HR2 := Lib.hid (And.intro hR2 k2)
  have HR3 := Lib.hid (And.intro hR3 k3)
  have HPL := Lib.hid hpl
  have HS := Lib.hid hS
  have hrn : rowsL l ≠ [] := fun e => by
    rw [rowsL_none hS] at e
    have := asked_sound hao
    rw [e] at this
    exact absurd this.2.2.2 (by simp)
  have HRN := Lib.hid hrn
  have hwnb : ((n : Int) != l.field.weeders) = false := by rw [hnw]; simp
  clear hao hS hsm k1 k2 k3 hpl hR1 hR2 hR3 hrn hnw
  go_wp2_with fail
  refine (Ledger_any (l) (tv) (.slice on l.notes.length cn) W1 (HA.out.1.below HK1.out.below (Nat.le_refl _)) (HA.out.2.below HK1.out.below (Nat.le_refl _)) (by have := HM.out.2.2.1; omega) (by have := HM.out.2.2.2.1; omega)).mono ?_
  rintro e W2 ⟨a2, b2, rfl, ht2, hn2, hb⟩
  have HL2 := Lib.hid (And.intro ht2 hn2)
  clear ht2 hn2
  have HK2 := Lib.hid (HK1.out.next hb)
  clear hb
  (try clear c0 f0)
  obtain ⟨c0, f0, l0⟩ := cells_of_block HK2.out.blk
  go_wp2_with fail
  refine (Earned_any (l) a2 b2 W2 HL2.out.1 HL2.out.2).mono ?_
  rintro e W3 ⟨hb, ⟨hne, _⟩ | ⟨_, u3, rfl, hu3⟩⟩
  · exact absurd (HA1.out) hne
  rw [HR1.out.1] at hu3
  obtain ⟨uo3, uc3, rfl⟩ := hu3.open
  have hv3 : SlAt 2 W3 (.slice uo3 n uc3) n (pairCells R1) := by have := PairsAt.at_ hu3 (HR1.out.2); rw [HR1.out.2] at this; exact this
  rw [HR1.out.2]
  have HV3 := Lib.hid hv3
  clear hu3 hv3
  have HK3 := Lib.hid (HK2.out.next hb)
  clear hb
  (try clear c0 f0)
  obtain ⟨c0, f0, l0⟩ := cells_of_block HK3.out.blk
  have HK3 := Lib.hid (HK3.out.add HV3.out (last_at HV3.out))
  go_wp2_with fail
  refine (Ledger_any (l) (tv) (.slice on l.notes.length cn) W3 (HA.out.1.below HK3.out.below (Nat.le_refl _)) (HA.out.2.below HK3.out.below (Nat.le_refl _)) (by have := HM.out.2.2.1; omega) (by have := HM.out.2.2.2.1; omega)).mono ?_
  rintro e W4 ⟨a4, b4, rfl, ht4, hn4, hb⟩
  have HL4 := Lib.hid (And.intro ht4 hn4)
  clear ht4 hn4
  have HK4 := Lib.hid (HK3.out.next hb)
  clear hb
  (try clear c0 f0)
  obtain ⟨c0, f0, l0⟩ := cells_of_block HK4.out.blk
  go_wp2_with fail
  refine (Paid_any (l) a4 b4 W4 HL4.out.1 HL4.out.2).mono ?_
  rintro e W5 ⟨hb, ⟨hne, _⟩ | ⟨_, u5, rfl, hu5⟩⟩
  · exact absurd (HA1.out) hne
  rw [HR2.out.1] at hu5
  obtain ⟨uo5, uc5, rfl⟩ := hu5.open
  have hv5 : SlAt 2 W5 (.slice uo5 n uc5) n (pairCells R2) := by have := PairsAt.at_ hu5 (HR2.out.2); rw [HR2.out.2] at this; exact this
  rw [HR2.out.2]
  have HV5 := Lib.hid hv5
  clear hu5 hv5
  have HK5 := Lib.hid (HK4.out.next hb)
  clear hb
  (try clear c0 f0)
  obtain ⟨c0, f0, l0⟩ := cells_of_block HK5.out.blk
  have HK5 := Lib.hid (HK5.out.add HV5.out (last_at HV5.out))
  go_wp2_with fail
  refine (Ledger_any (l) (tv) (.slice on l.notes.length cn) W5 (HA.out.1.below HK5.out.below (Nat.le_refl _)) (HA.out.2.below HK5.out.below (Nat.le_refl _)) (by have := HM.out.2.2.1; omega) (by have := HM.out.2.2.2.1; omega)).mono ?_
  rintro e W6 ⟨a6, b6, rfl, ht6, hn6, hb⟩
  have HL6 := Lib.hid (And.intro ht6 hn6)
  clear ht6 hn6
  have HK6 := Lib.hid (HK5.out.next hb)
  clear hb
  (try clear c0 f0)
  obtain ⟨c0, f0, l0⟩ := cells_of_block HK6.out.blk
  go_wp2_with fail
  refine (Owed_any (l) a6 b6 W6 HL6.out.1 HL6.out.2).mono ?_
  rintro e W7 ⟨hb, ⟨hne, _⟩ | ⟨_, u7, rfl, hu7⟩⟩
  · exact absurd (HA1.out) hne
  rw [HR3.out.1] at hu7
  obtain ⟨uo7, uc7, rfl⟩ := hu7.open
  have hv7 : SlAt 2 W7 (.slice uo7 n uc7) n (pairCells R3) := by have := PairsAt.at_ hu7 (HR3.out.2); rw [HR3.out.2] at this; exact this
  rw [HR3.out.2]
  have HV7 := Lib.hid hv7
  clear hu7 hv7
  have HK7 := Lib.hid (HK6.out.next hb)
  clear hb
  (try clear c0 f0)
  obtain ⟨c0, f0, l0⟩ := cells_of_block HK7.out.blk
  have HK7 := Lib.hid (HK7.out.add HV7.out (last_at HV7.out))
  go_wp2_with fail
  refine (zRows_any (HM.out.2.1) tv (.slice on l.notes.length cn) W7 (HA.out.1.below HK7.out.below (Nat.le_refl _)) (HA.out.2.below HK7.out.below (Nat.le_refl _))).mono ?_
  rintro e W8 ⟨ev, es, rfl, hes, hmap, hb⟩
  obtain ⟨eo, ec, rfl⟩ := hes.1.open
  have HES := Lib.hid (And.intro hes hmap)
  have hel := hes.1.len
  clear hes hmap
  have HK8 := Lib.hid (HK7.out.next hb)
  clear hb
  (try clear c0 f0)
  obtain ⟨c0, f0, l0⟩ := cells_of_block HK8.out.blk
  have HK8 := Lib.hid (HK8.out.add (T := fun W => ListsAt W (.slice eo es.length ec) es) HES.out.1 (last_lists HES.out.1))
  have hl0b : ((es.length : Int) == 0) = false := by
    rw [beq_eq_false_iff_ne]
    intro e
    have := congrArg List.length HES.out.2
    rw [List.length_map] at this
    exact HRN.out (List.eq_nil_of_length_eq_zero (by omega))
  go_wp2_with fail
  clear c0 f0 hwnb hl0b
  obtain ⟨A, hA⟩ : ∃ A, R1.getD K (0, 0) = A := ⟨_, rfl⟩
  obtain ⟨B, hB⟩ : ∃ B, R2.getD K (0, 0) = B := ⟨_, rfl⟩
  obtain ⟨C, hC⟩ : ∃ C, R3.getD K (0, 0) = C := ⟨_, rfl⟩
  have hfin : metL A B C 0 ((es.take es.length).flatMap fun x => pairsOf l K x.2) = 63 := by
    have := HPL.out
    rw [hA, hB, hC, ← HES.out.2, List.flatMap_map] at this
    rw [List.take_length]
    exact this
  have HABC := Lib.hid (And.intro hA (And.intro hB (And.intro hC hfin)))
  clear hA hB hC hfin
  go_loopw [14, 15] (fun v14 u wr => ∃ i : Nat, i ≤ es.length ∧ u = .int .i64 i ∧ v14 = .int .i64 ((metL A B C 0 ((es.take i).flatMap fun x => pairsOf l K x.2) : Nat) : Int) ∧ Below W8.heap.size W8 wr) (fun _ u _ => es.length - (intOf u).toNat)
  case atStart => exact ⟨0, Nat.zero_le _, rfl, rfl, Below.refl _ _⟩
  case round =>
    obtain ⟨i, hi, rfl, rfl, hB⟩ := hrel
    have HKR := Lib.hid ((HK8.out.next hB).add (T := fun W => Below W8.heap.size W8 W) hB (fun W' h => bgo hB h))
    obtain ⟨c0, f0, l0'⟩ := cells_of_block HKR.out.blk
    clear hB
    by_cases hlt : i < es.length
    case neg =>
      obtain rfl : i = es.length := by omega
      rw [HABC.out.2.2.2]
      have hnl : ¬ (es.length : Int) < es.length := by omega
      go_wp2_with fail
      refine (awake_any _).mono ?_
      rintro e Wz ⟨rfl, hb⟩
      have HBZ := Lib.hid (bgo HKR.out.below hb)
      clear hb c0 f0
      go_wp2_with fail
      go_returns
      exact ⟨by simp, HBZ.out⟩
    have hltI : (i : Int) < es.length := by omega
    have hmt := (rowsE HS.out HES.out.2 hlt).1
    have hia := HKR.out.is.2.1.2 _ (List.getElem_mem hlt)
    obtain ⟨b, off, hv, hb1, dw⟩ := ListsAt.cell HKR.out.is.2.1.1 hlt
    have hms : metL A B C 0 ((es.take (i + 1)).flatMap fun x => pairsOf l K x.2) = metL A B C (metL A B C 0 ((es.take i).flatMap fun x => pairsOf l K x.2)) (pairsOf l K es[i].2) := by
      rw [List.take_succ_eq_append_getElem hlt, List.flatMap_append, metL_app]
      simp
    generalize es[i] = ee at *
    obtain ⟨vt, t⟩ := ee
    simp only at hmt hia dw hms
    obtain ⟨o3, c3, rfl⟩ := hia.open
    cases hv
    have htl := row_len HS.out hmt
    have hF := soundF_of HS.out.field
    have hrt := HS.out.rate
    have HD := Lib.hid (fun (W : World) (h : Below wr.heap.size wr W) => zDues_any l tv (.slice on l.notes.length cn) (.slice o3 t.length c3) t W (hia.below h (Nat.le_refl _)) (by omega) (by have := hF.weed0; omega) hF.weed1 (by omega) hrt.2)
    have HP := Lib.hid (fun (W : World) (h : Below wr.heap.size wr W) => Payable_any HS.out tv (.slice on l.notes.length cn) (.slice o3 t.length c3) t K W (HA.out.2.below (bgo HKR.out.below h) (Nat.le_refl _)) (hia.below h (Nat.le_refl _)) hmt (by rw [HNW.out.2]; exact hKn))
    have hdb := dueV_bd HS.out htl
    have hdl := dueV_length HS.out t
    have hpb := payL_bd (wd := K) hdb
    have hdz := duesZ_eq hF (truthsF_len hmt)
    have hpo : pairsOf l K t = (payL l (dueV l t) K).map fun p => ((dueV l t).getD K 0, p) := rfl
    rw [hpo] at hms
    rw [hdz] at HD
    rw [HNW.out.2] at hdl HD
    generalize dueV l t = D at *
    generalize payL l D K = Q at *
    have hKD : K < D.length := by omega
    have hgD : D.getD K 0 = D[K] := by simp [List.getD, hKD]
    have hdK := hdb _ (List.getElem_mem hKD)
    rw [hgD] at hms
    obtain ⟨du, hdu⟩ : ∃ x, D[K] = x := ⟨_, rfl⟩
    rw [hdu] at hms hdK
    have HDU := Lib.hid (And.intro hdu hdl)
    obtain ⟨M0, hM0⟩ : ∃ M, metL A B C 0 ((es.take i).flatMap fun x => pairsOf l K x.2) = M := ⟨_, rfl⟩
    have hM64 : M0 < 64 := by rw [← hM0]; exact metL_lt _ (by decide)
    rw [hM0] at hms ⊢
    have HMS := Lib.hid (And.intro hms hM0)
    have HQB := Lib.hid hpb
    have HWR := Lib.hid (HKR.out.is.1)
    clear hmt hia htl hF hrt hdb hpb hdz hpo hdu hgD hdl hms hM0
    go_wp2_with fail
    refine wp_region_rg 9 [] none [(5, ⟨fun _ v => ∃ gB gO gC, v = .slice (some ⟨gB, gO, none⟩) n gC, fun _ v Wx => ∃ gB gO gC, v = .slice (some ⟨gB, gO, none⟩) n gC ∧ gB < Wx.heap.size ∧ Wx.cell? ⟨gB, gO + K, none⟩ = some (iv du)⟩)] (by as_aux_lemma => kernel_rfl) (by as_aux_lemma => kernel_rfl) ?_
    simp only [List.take_succ_cons, List.take_zero, List.drop_succ_cons, List.drop_zero]
    repeat (first | (refine tree_det (by rfl) _ (by rfl) (fun W hW => by go_simp; (try simp (disch := omega) only [IntWalk.i64_in]); try rfl) ?_; simp only [Act.put, List.setIfInBounds_toArray, List.set_cons_succ, List.set_cons_zero]) | (refine tree_skip (by rfl) (by rfl) ?_; simp only [Act.put, List.setIfInBounds_toArray, List.set_cons_succ, List.set_cons_zero]))
    refine tree_some _ (by rfl) (by rfl) (by exact ⟨.slice (some ⟨0, 0, none⟩) n 0, 0, 0, 0, rfl⟩) (fun Wx hE hF => ?_) (fun v Wx Wy ho hE => ?_) (fun v hv => ?_)
    · have hE' : Ext [] wr Wx := hE
      refine does_enter 59 #[lv l tv (.slice on l.notes.length cn), .slice o3 t.length c3] (by go_simp; try rfl) ?_
      refine (HD.out Wx hE'.below).mono ?_
      rintro e W' ⟨u, rfl, hu, hb⟩
      obtain ⟨o6, c6, rfl⟩ := owns_slice hu
      obtain ⟨gB, gO, hgv, hgl, hgc⟩ := IntsAt.cell (SlAt.of_owns hu) hKD
      rw [HDU.out.1] at hgc
      cases hgv
      exact ⟨_, rfl, ⟨_, _, _, rfl⟩, ⟨_, _, _, rfl, hgl, hgc⟩, Ext.of_below hb⟩
    · obtain ⟨gB, gO, gC, rfl, h1, h2⟩ := ho
      have hE' : Ext [] Wx Wy := hE
      exact ⟨_, _, _, rfl, by have := hE'.size; omega, (hE'.cell _ _ h1 (by simp)).trans h2⟩
    obtain ⟨gB, gO, gC, rfl⟩ := hv
    simp only [Act.put, List.setIfInBounds_toArray, List.set_cons_succ, List.set_cons_zero]
    repeat (first | (refine tree_det (by rfl) _ (by rfl) (fun W hW => by go_simp; (try simp (disch := omega) only [IntWalk.i64_in]); try rfl) ?_; simp only [Act.put, List.setIfInBounds_toArray, List.set_cons_succ, List.set_cons_zero]) | (refine tree_skip (by rfl) (by rfl) ?_; simp only [Act.put, List.setIfInBounds_toArray, List.set_cons_succ, List.set_cons_zero]))
    refine tree_det_on (by rfl) (iv du) (by rfl) (fun W hE hF => ?_) ?_
    · obtain ⟨gB', gO', gC', he, h1, h2⟩ := hF _ (List.Mem.head _) (by kernel_rfl)
      cases he
      go_simp
      try rfl
    simp only [Act.put, List.setIfInBounds_toArray, List.set_cons_succ, List.set_cons_zero]
    repeat (first | (refine tree_det (by rfl) _ (by rfl) (fun W hW => by go_simp; (try simp (disch := omega) only [IntWalk.i64_in]); try rfl) ?_; simp only [Act.put, List.setIfInBounds_toArray, List.set_cons_succ, List.set_cons_zero]) | (refine tree_skip (by rfl) (by rfl) ?_; simp only [Act.put, List.setIfInBounds_toArray, List.set_cons_succ, List.set_cons_zero]))
    intro X hE hF
    have hEX : Ext [] wr X := hE
    have HX := Lib.hid hEX.below
    have dx := (hEX.cell _ _ hb1 (by simp)).trans dw
    have hb2 := Nat.lt_of_lt_of_le hb1 hEX.size
    have hkx := (hEX.below.block _ l0').trans HKR.out.blk
    clear hE hF hEX c0 f0 dw
    obtain ⟨c0, f0, l0x⟩ := cells_of_block hkx
    clear hkx
    go_wp2_with fail
    obtain ⟨m, hm⟩ : ∃ m, Q.length = m := ⟨_, rfl⟩
    have HM9 := Lib.hid hm
    refine wp_region_rg 7 [] none [(6, ⟨fun _ v => ∃ o c, v = .slice o m c, fun _ v Wx => SlAt 1 Wx v m (intCells Q)⟩)] (by as_aux_lemma => kernel_rfl) (by as_aux_lemma => kernel_rfl) ?_
    simp only [List.take_succ_cons, List.take_zero, List.drop_succ_cons, List.drop_zero]
    repeat (first | (refine tree_det (by rfl) _ (by rfl) (fun W hW => by go_simp; (try simp (disch := omega) only [IntWalk.i64_in]); try rfl) ?_; simp only [Act.put, List.setIfInBounds_toArray, List.set_cons_succ, List.set_cons_zero]) | (refine tree_skip (by rfl) (by rfl) ?_; simp only [Act.put, List.setIfInBounds_toArray, List.set_cons_succ, List.set_cons_zero]))
    refine tree_some _ (by rfl) (by rfl) (by exact ⟨.slice none m 0, none, 0, rfl⟩) (fun Wx hE hF => ?_) (fun v Wx Wy ho hE => SlAt.below ho (Ext.below (show Ext [] Wx Wy from hE)) (Nat.le_refl _)) (fun v hv => ?_)
    · have hE' : Ext [] X Wx := hE
      refine does_enter 60 #[lv l tv (.slice on l.notes.length cn), .slice o3 t.length c3, iv K] (by go_simp; try rfl) ?_
      refine (HP.out Wx (bgo HX.out hE'.below)).mono ?_
      rintro e W' ⟨u, rfl, hu, hb⟩
      rw [HM9.out] at hu
      exact ⟨_, rfl, owns_slice hu, SlAt.of_owns hu, Ext.of_below hb⟩
    obtain ⟨o7, c7, rfl⟩ := hv
    simp only [Act.put, List.setIfInBounds_toArray, List.set_cons_succ, List.set_cons_zero]
    repeat (first | (refine tree_det (by rfl) _ (by rfl) (fun W hW => by go_simp; (try simp (disch := omega) only [IntWalk.i64_in]); try rfl) ?_; simp only [Act.put, List.setIfInBounds_toArray, List.set_cons_succ, List.set_cons_zero]) | (refine tree_skip (by rfl) (by rfl) ?_; simp only [Act.put, List.setIfInBounds_toArray, List.set_cons_succ, List.set_cons_zero]))
    intro Y hE hF
    have hq : SlAt 1 Y (.slice o7 m c7) m (intCells Q) := hF _ (List.Mem.head _)
    have hml := SlAt.len hq
    have hEY : Ext [] X Y := hE
    have HY := Lib.hid (And.intro (bgo HX.out hEY.below) hq)
    clear hE hF hEY hq c0 f0 l0x dx hb2 hm l0' hb1
    go_wp2_with fail
    go_loopw [14, 18] (fun v14 u wq => ∃ j : Nat, j ≤ m ∧ u = .int .i64 j ∧ v14 = .int .i64 ((metL A B C M0 ((Q.take j).map fun p => (du, p)) : Nat) : Int) ∧ Below Y.heap.size Y wq) (fun _ u _ => m - (intOf u).toNat)
    case atStart => exact ⟨0, Nat.zero_le _, rfl, rfl, Below.refl _ _⟩
    case round =>
      obtain ⟨j, hj, rfl, rfl, hB⟩ := hrel
      by_cases hjl : j < m
      case neg =>
        obtain rfl : j = m := by omega
        rw [show Q.take j = Q from List.take_of_length_le (by rw [HM9.out]; exact Nat.le_refl _), ← HMS.out.1]
        have hnj : ¬ (j : Int) < j := by omega
        have HB9 := Lib.hid (bgo HWR.out (bgo HY.out.1 hB))
        clear hB
        go_wp2_with fail
        go_roundw
        case rel => exact ⟨i + 1, by omega, by go_num, rfl, HB9.out⟩
        case measure => simp [intOf]; omega
      have hjQ : j < Q.length := by rw [HM9.out]; exact hjl
      have hjI : (j : Int) < m := by omega
      have hKI : (K : Int) < n := by omega
      obtain ⟨b9, o9, hv9, hl9, d9⟩ := IntsAt.cell (l := Q) (SlAt.below HY.out.2 hB (Nat.le_refl _)) hjQ
      have hpb := HQB.out _ (List.getElem_mem hjQ)
      have hmj : metL A B C M0 ((Q.take (j + 1)).map fun p => (du, p)) = orTo (endsL A B C (du, Q[j])) (metL A B C M0 ((Q.take j).map fun p => (du, p))) 6 := by
        rw [List.take_succ_eq_append_getElem hjQ, List.map_append]
        exact metL_snoc _ _ _ _ _ _
      have HKQ := Lib.hid (HKR.out.next (bgo HY.out.1 hB))
      have hi1 : K < R1.length := by rw [HR1.out.2]; exact hKn
      have hi2 : K < R2.length := by rw [HR2.out.2]; exact hKn
      have hi3 : K < R3.length := by rw [HR3.out.2]; exact hKn
      have g1 : R1[K] = A := by rw [← HABC.out.1]; simp [List.getD, hi1]
      have g2 : R2[K] = B := by rw [← HABC.out.2.1]; simp [List.getD, hi2]
      have g3 : R3[K] = C := by rw [← HABC.out.2.2.1]; simp [List.getD, hi3]
      obtain ⟨q3, s3, h3, j3, e4, e5⟩ := PairsAt.cell HKQ.out.is.2.2.1 hi3
      obtain ⟨q2, s2, h2', j2, e2, e3⟩ := PairsAt.cell HKQ.out.is.2.2.2.1 hi2
      obtain ⟨q1, s1, h1, j1, e0, e1⟩ := PairsAt.cell HKQ.out.is.2.2.2.2.1 hi1
      rw [g1] at e0 e1
      rw [g2] at e2 e3
      rw [g3] at e4 e5
      generalize Q[j] = p at *
      obtain ⟨M1, hM1⟩ : ∃ M, metL A B C M0 ((Q.take j).map fun p => (du, p)) = M := ⟨_, rfl⟩
      have hM1b : M1 < 64 := by rw [← hM1]; exact metL_lt _ hM64
      rw [hM1] at hmj ⊢
      obtain ⟨E, hEE⟩ : ∃ E, endsL A B C (du, p) = E := ⟨_, rfl⟩
      rw [hEE] at hmj
      have HMJ := Lib.hid (And.intro hmj hEE)
      have HBJ := Lib.hid (bgo HY.out.1 hB)
      have HBY := Lib.hid hB
      have hsb : -2000 ≤ du - p ∧ du - p ≤ 2000 := by omega
      cases hv9
      cases h1
      cases h2'
      cases h3
      clear hpb hmj hM1 hEE hB g1 g2 g3 hi1 hi2 hi3
      go_wp2_with fail
      refine wp_region_rg 60 [] none [(59, Spec.block wr.heap.size #[.bool false, .bool false, .bool false, .bool false, .bool false, .bool false] 98)] (by as_aux_lemma => kernel_rfl) (by as_aux_lemma => kernel_rfl) ?_
      simp only [List.take_succ_cons, List.take_zero, List.drop_succ_cons, List.drop_zero]
      repeat (first | (refine tree_det (by rfl) _ (by rfl) (fun W hW => by go_simp; (try simp (disch := omega) only [IntWalk.i64_in]); try rfl) ?_; simp only [Act.put, List.setIfInBounds_toArray, List.set_cons_succ, List.set_cons_zero]) | (refine tree_skip (by rfl) (by rfl) ?_; simp only [Act.put, List.setIfInBounds_toArray, List.set_cons_succ, List.set_cons_zero]))
      refine tree_block wr.heap.size #[.bool false, .bool false, .bool false, .bool false, .bool false, .bool false] 98 (by rfl) (Nat.le_refl _) (by rfl) (by simp) (by simp) (fun W hW => by go_simp; try rfl) (fun b19 => ?_)
      simp only [Act.put, List.setIfInBounds_toArray, List.set_cons_succ, List.set_cons_zero]
      repeat (first | (refine tree_det (by rfl) _ (by rfl) (fun W hW => by go_simp; (try simp (disch := omega) only [IntWalk.i64_in]); try rfl) ?_; simp only [Act.put, List.setIfInBounds_toArray, List.set_cons_succ, List.set_cons_zero]) | (refine tree_skip (by rfl) (by rfl) ?_; simp only [Act.put, List.setIfInBounds_toArray, List.set_cons_succ, List.set_cons_zero]))
      intro W9 hE hF
      obtain ⟨b19', hb19, hge19, hc19⟩ := hF _ (List.Mem.head _)
      cases hb19
      have hE9 : Ext [] wr W9 := hE
      have H9 := Lib.hid (And.intro hc19 (And.intro hE9.below hge19))
      obtain ⟨c9, f9, l9⟩ := cells_of_block hc19
      clear hE hF hE9 hc19 d9 hl9 e0 e1 e2 e3 e4 e5 j1 j2 j3
      go_wp2_with fail
      refine gworld fun Z hZ => ?_
      have hz : Z.heap[b19]? = some (.cells (E.map Value.bool).toArray 98 (0, 0)) := by rw [hZ, ← HMJ.out.2]; exact set_six H9.out.1 _ _ _ _ _ _
      have hBZ : Below Y.heap.size Y Z := bgo HBY.out (by rw [hZ]; exact bgoSet (bgoSet (bgoSet (bgoSet (bgoSet (bgoSet H9.out.2.1 H9.out.2.2 _) H9.out.2.2 _) H9.out.2.2 _) H9.out.2.2 _) H9.out.2.2 _) H9.out.2.2 _)
      have hE6 : E.length = 6 := by rw [← HMJ.out.2]; rfl
      have HZ := Lib.hid (And.intro hz (And.intro hBZ hE6))
      clear hZ hz hBZ hE6 c9 f9 l9 H9 hge19
      go_wp2_with fail
      go_loopw [14, 20] (fun v14 u wz => ∃ x : Nat, x ≤ 6 ∧ u = .int .i64 x ∧ v14 = .int .i64 ((orTo E M1 x : Nat) : Int) ∧ Below Z.heap.size Z wz) (fun _ u _ => 6 - (intOf u).toNat)
      case atStart => exact ⟨0, Nat.zero_le _, rfl, rfl, Below.refl _ _⟩
      case round =>
        obtain ⟨x, hx, rfl, rfl, hB⟩ := hrel
        have HB0 := Lib.hid hB
        by_cases hx6 : x < 6
        case neg =>
          obtain rfl : x = 6 := by omega
          rw [← HMJ.out.1]
          clear hB
          go_wp2_with fail
          go_roundw
          case rel => exact ⟨j + 1, by omega, by go_num, rfl, bgo HZ.out.2.1 HB0.out⟩
          case measure => simp [intOf]; omega
        have hxI : (x : Int) < 6 := by omega
        have hcx := boolCells_at ((hB.block _ (cells_of_block HZ.out.1).2.2).trans HZ.out.1) (m := x) (by rw [HZ.out.2.2]; exact hx6)
        have hbl := World.block_lt_of_cell? wr _ hcx
        have hob : orTo E M1 (x + 1) = if E.getD x false then orTo E M1 x ||| 2 ^ x else orTo E M1 x := rfl
        have hb64 := orTo_lt (es := E) hM1b (k := x) (by omega)
        generalize orTo E M1 x = b0 at *
        generalize E.getD x false = e at *
        obtain ⟨hp1, hp2⟩ := pow_bd (show x ≤ 6 by omega)
        have hp2N : 2 ^ x ≤ 2 ^ 6 := Nat.pow_le_pow_right (by omega) (by omega)
        have hor : bits .or .i64 (b0 : Int) (2 ^ x) = ((b0 ||| 2 ^ x : Nat) : Int) := by
          have := or_nat b0 (2 ^ x) (by omega) (by omega)
          simpa using this
        have hx7 : (x : Int) ≤ 5 := by omega
        have hbI : (b0 : Int) ≤ 63 := by omega
        have HOB := Lib.hid hob
        clear hB hob hp2N
        cases e
        · go_wp2_with fail
          go_roundw
          case rel => exact ⟨x + 1, by omega, by go_num, by rw [HOB.out]; rfl, HB0.out⟩
          case measure => simp [intOf]; omega
        · go_wp2_with fail
          go_roundw
          case rel => exact ⟨x + 1, by omega, by go_num, by rw [HOB.out]; rfl, HB0.out⟩
          case measure => simp [intOf]; omega
end Go.Proofs.YtdjgikcnmokjkaaGreat
