/-
  The walk of WageWeed.
-/
import Derived.WalkKit
import Derived.WalkLawsBesides
import Derived.WalkSpells
import Derived.Outline
import Derived.Handy
import Derived.KernelRfl
import Derived.Lib.Hide
import Derived.BigRegion
import Derived.Deep.Cut
import Derived.Test.YtdjgikcnmokjkaaGreatZF
import Derived.Test.YtdjgikcnmokjkaaGreatVL
import Derived.Test.YtdjgikcnmokjkaaGreatKE
namespace Go.Proofs.YtdjgikcnmokjkaaGreat
open Go.RowKit Go.RG Go.SL Go.Shelf Cou Go.TB
set_option maxHeartbeats 400000
set_option maxRecDepth 10000

set_option maxHeartbeats 8000000 in
theorem WageWeed_any (l : LedgerD) (tv nv : Value) (w : World) (ht : TalliesAt w tv l.field.tallies) (hn : TriplesAt w nv l.notes) :
    Calls Tryz.prog 12 #[lv l tv nv] w (PV (.bool true) w) := by
  have HTV := Lib.hid ht.open
  have HA := Lib.hid (And.intro ht hn)
  have HR := Lib.hid (ready_any l tv nv (w.alloc (.cells (lcells l tv nv) 30)) (ht.alloc _) (hn.alloc _))
  obtain ⟨on, cn, rfl⟩ := hn.open
  clear ht hn
  obtain ⟨rd, hrd⟩ : ∃ rd, readyL l = rd := ⟨_, rfl⟩
  rw [hrd] at HR
  have HRD := Lib.hid hrd
  clear hrd
  go_enter Tryz.func12, Tryz.ntmps12
  go_wp2_with fail
  refine HR.out.mono ?_
  rintro e W1 ⟨rfl, hb⟩
  have hk0 := (hb.block w.heap.size (by simp)).trans (heap_new0 w (.cells (lcells l tv (.slice on l.notes.length cn)) 30))
  have HB1 := Lib.hid (And.intro (show Below w.heap.size w W1 from (by repeat (first | exact Below.refl _ _ | assumption | refine bgo ?_ (by assumption) | refine bgoAlloc ?_ _ | refine bgoDrew ?_ | refine bgoSet ?_ (by simp; omega) _))) hk0)
  obtain ⟨c0, f0, l0⟩ := cells_of_block hk0
  clear hb hk0
  cases rd
  · clear c0 f0 l0
    go_wp2_with fail
    refine (awake_any _).mono ?_
    rintro e W2 ⟨rfl, hb⟩
    have HB2 := Lib.hid (bgo HB1.out.1 hb)
    clear hb
    go_wp2_with fail
    go_returns
    exact ⟨by simp, HB2.out⟩
  obtain ⟨hz, hS, ht5, hn5, _, _⟩ := readyL_facts HRD.out
  have hw0 := (soundF_of hS.field).weed0
  have hw3 := (soundF_of hS.field).weed1
  have HM := Lib.hid (And.intro hz (And.intro hS (And.intro ht5 (And.intro hn5 (And.intro hw0 hw3)))))
  clear hz hS ht5 hw0 hw3
  have HK1 := Lib.hid (Keeps.one HB1.out.1 HB1.out.2)
  obtain ⟨ot, ct, htv⟩ := HTV.out
  subst htv
  have hS := HM.out.2.1
  obtain ⟨n, hn⟩ : ∃ n : Nat, l.field.weeders = n := ⟨l.field.weeders.toNat, by have := HM.out.2.2.2.2; omega⟩
  have HNW := Lib.hid hn
  have hn3 : n ≤ 3 := by have := HM.out.2.2.2.2; omega
  have hwn : l.field.weeders.toNat = n := by omega
  have hfa := free_asked HM.out.1
  have hfs := (asked_ok hfa).2
  have hl1 : (bndL partE (freeG l) (duesT (freeG l))).length = n := by rw [least_len (asked_ok hfa).1 hfs]; exact hwn
  have hl2 : (bndL partO (freeG l) (duesT (freeG l))).length = n := by rw [least_len (asked_ok hfa).1 hfs]; exact hwn
  have hg1 := fun i (hi : i < n) => free_earned hS (i := i) (by omega)
  have hg2 := fun i (hi : i < n) => free_owed hS (i := i) (by omega)
  have hd1 : (doneL l.field).length = n := by rw [doneL_len]; exact hwn
  obtain ⟨q, hq⟩ : ∃ q, askedErr l true = q := ⟨_, rfl⟩
  have hin : q = 0 → InsideL (bndL partE l (duesT l)) (bndL partE (freeG l) (duesT (freeG l))) ∧ (bndL partE l (duesT l)).length = n := fun hq0 => by
    have ha := hq.trans hq0
    have hl0 : (bndL partE l (duesT l)).length = n := by rw [least_len (asked_ok ha).1 (asked_ok ha).2]; exact hwn
    exact ⟨⟨by rw [hl0, hl1], fun i hi => free_inside ha (by omega)⟩, hl0⟩
  have hq11 : q = 0 ∨ q = 11 := by rw [← hq]; exact asked_err HM.out.1
  have hdb : ∀ i, i < n → 0 ≤ ((doneL l.field).getD i (0, 0)).1 ∧ ((doneL l.field).getD i (0, 0)).1 ≤ 7 ∧ 0 ≤ ((doneL l.field).getD i (0, 0)).2 ∧ ((doneL l.field).getD i (0, 0)).2 ≤ 7 := fun i hi => by
    have h := doneL_hull hS.some (i := i) (by omega)
    obtain ⟨⟨⟨y, ⟨a, ha, rfl⟩, e1⟩, _⟩, ⟨z, ⟨b, hb, rfl⟩, e2⟩, _⟩ := h
    have hr := (soundF_of hS.field).rows1
    have dl : ∀ a ∈ truthsF l.field [], 0 ≤ doneF l.field a (i : Int) ∧ doneF l.field a (i : Int) ≤ 7 := fun a ha => by
      unfold doneF didT didL
      have := List.countP_le_length (p := fun j => a.getD j 0 == (i : Int)) (l := List.range' (0 : Int).toNat ((l.field.rows - 1) + 1 - 0).toNat)
      rw [List.length_range'] at this
      omega
    have h1 := dl a ha
    have h2 := dl b hb
    simp only at e1 e2
    omega
  obtain ⟨R1, hR1⟩ : ∃ R, bndL partE (freeG l) (duesT (freeG l)) = R := ⟨_, rfl⟩
  obtain ⟨R2, hR2⟩ : ∃ R, bndL partO (freeG l) (duesT (freeG l)) = R := ⟨_, rfl⟩
  obtain ⟨D, hD⟩ : ∃ D, doneL l.field = D := ⟨_, rfl⟩
  simp only [hR1, hR2, hD] at hl1 hl2 hg1 hg2 hin hd1 hdb
  have HR := Lib.hid (And.intro hR1 (And.intro hR2 (And.intro hl1 hl2)))
  have HFA := Lib.hid hfa
  have HQ := Lib.hid (And.intro hq (And.intro hin hq11))
  have HG := Lib.hid (And.intro hg1 (And.intro hg2 (And.intro hdb (And.intro hD hd1))))
  have hr := hS.rate
  have HASK : Hid (askFErr l.field true = 0) := Lib.hid (by
    have := HM.out.1
    unfold faultW at this
    split at this
    · omega
    split at this
    · omega
    rename_i h
    omega)
  clear hS hn hwn hfa hfs hl1 hl2 hg1 hg2 hd1 hin hR1 hR2 hD hq11 hq hdb
  go_upto_region 5 with (fail)
  refine gworld fun W2 hW2 => ?_
  have hx : W2.heap[W1.heap.size]? = some (.cells (lcells (freeG l) (.slice ot l.field.tallies.length ct) (.slice none 0 0)) 30 (0, 0)) := by
    rw [hW2]
    exact heap_new0 _ _
  have hb : Below W1.heap.size W1 W2 := by rw [hW2]; exact bgoAlloc (Below.refl _ _) _
  have HK2 := Lib.hid ((HK1.out.next hb).more hx (last_block hx))
  clear hx hb hW2 c0 f0
  obtain ⟨c0, f0, _⟩ := cells_of_block HK2.out.blk.2
  obtain ⟨c1, f1, l1⟩ := cells_of_block HK2.out.blk.1
  go_wp2_with fail
  refine (Ledger_any (l) (.slice ot l.field.tallies.length ct) (.slice on l.notes.length cn) W2 (HA.out.1.below HK2.out.below (Nat.le_refl _)) (HA.out.2.below HK2.out.below (Nat.le_refl _)) (by have := HM.out.2.2.1; omega) (by have := HM.out.2.2.2.1; omega)).mono ?_
  rintro e W3 ⟨a3, b3, rfl, ht3, hn3, hb⟩
  have HL3 := Lib.hid (And.intro ht3 hn3)
  clear ht3 hn3
  have HK3 := Lib.hid (HK2.out.next hb)
  clear hb
  (try clear c0 f0)
  (try clear c1 f1)
  obtain ⟨c0, f0, l0⟩ := cells_of_block HK3.out.blk.2
  obtain ⟨c1, f1, l1⟩ := cells_of_block HK3.out.blk.1
  go_wp2_with fail
  refine (Earned_any (l) a3 b3 W3 HL3.out.1 HL3.out.2 (by have := HM.out.2.2.2.2; omega)).mono ?_
  intro e W4 hpp
  obtain ⟨uo4, um4, uc4, rfl, hu4, hz4, hb⟩ := hpp.uni
  rw [HQ.out.1] at hu4 hz4
  rw [HQ.out.1]
  have HZ4 := Lib.hid hz4
  have HU4 := Lib.hid hu4
  clear hu4 hz4 hpp
  have HK4 := Lib.hid (HK3.out.next hb)
  clear hb
  (try clear c0 f0)
  (try clear c1 f1)
  obtain ⟨c0, f0, l0⟩ := cells_of_block HK4.out.blk.2
  obtain ⟨c1, f1, l1⟩ := cells_of_block HK4.out.blk.1
  go_wp2_with fail
  have HK4 := Lib.hid (HK4.out.add (T := fun X => q = 0 → um4 = (bndL partE l (duesT l)).length ∧ SlAt 2 X (.slice uo4 um4 uc4) um4 (pairCells (bndL partE l (duesT l)))) HU4.out (fun W' h hq0 => ⟨(HU4.out hq0).1, last_at (HU4.out hq0).2 W' h⟩))
  refine (Ledger_any (freeG l) (.slice ot l.field.tallies.length ct) (.slice none 0 0) W4 (HA.out.1.below HK4.out.below (Nat.le_refl _)) (SlAt.nil 3 _) (by have := HM.out.2.2.1; show l.field.tallies.length ≤ 1000; omega) (by show 0 ≤ 1000; omega)).mono ?_
  rintro e W5 ⟨a5, b5, rfl, ht5, hn5, hb⟩
  have HL5 := Lib.hid (And.intro ht5 hn5)
  clear ht5 hn5
  have HK5 := Lib.hid (HK4.out.next hb)
  clear hb
  (try clear c0 f0)
  (try clear c1 f1)
  obtain ⟨c0, f0, l0⟩ := cells_of_block HK5.out.blk.2
  obtain ⟨c1, f1, l1⟩ := cells_of_block HK5.out.blk.1
  go_wp2_with fail
  refine (Earned_any (freeG l) a5 b5 W5 HL5.out.1 HL5.out.2 (by show -1000 ≤ l.field.weeders ∧ l.field.weeders ≤ 1000; have := HM.out.2.2.2.2; omega)).mono ?_
  rintro e W6 ⟨hb, ⟨hne, _⟩ | ⟨_, u6, rfl, hu6⟩⟩
  · exact absurd (HFA.out) hne
  rw [HR.out.1] at hu6
  obtain ⟨uo6, uc6, rfl⟩ := hu6.open
  have hv6 : SlAt 2 W6 (.slice uo6 n uc6) n (pairCells R1) := by have := PairsAt.at_ hu6 (HR.out.2.2.1); rw [HR.out.2.2.1] at this; exact this
  rw [HR.out.2.2.1]
  have HV6 := Lib.hid hv6
  clear hu6 hv6
  have HK6 := Lib.hid (HK5.out.next hb)
  clear hb
  (try clear c0 f0)
  (try clear c1 f1)
  obtain ⟨c0, f0, l0⟩ := cells_of_block HK6.out.blk.2
  obtain ⟨c1, f1, l1⟩ := cells_of_block HK6.out.blk.1
  have HK6 := Lib.hid (HK6.out.add HV6.out (last_at HV6.out))
  go_wp2_with fail
  refine (Ledger_any (freeG l) (.slice ot l.field.tallies.length ct) (.slice none 0 0) W6 (HA.out.1.below HK6.out.below (Nat.le_refl _)) (SlAt.nil 3 _) (by have := HM.out.2.2.1; show l.field.tallies.length ≤ 1000; omega) (by show 0 ≤ 1000; omega)).mono ?_
  rintro e W7 ⟨a7, b7, rfl, ht7, hn7, hb⟩
  have HL7 := Lib.hid (And.intro ht7 hn7)
  clear ht7 hn7
  have HK7 := Lib.hid (HK6.out.next hb)
  clear hb
  (try clear c0 f0)
  (try clear c1 f1)
  obtain ⟨c0, f0, l0⟩ := cells_of_block HK7.out.blk.2
  obtain ⟨c1, f1, l1⟩ := cells_of_block HK7.out.blk.1
  go_wp2_with fail
  refine (Owed_any (freeG l) a7 b7 W7 HL7.out.1 HL7.out.2 (by show -1000 ≤ l.field.weeders ∧ l.field.weeders ≤ 1000; have := HM.out.2.2.2.2; omega)).mono ?_
  rintro e W8 ⟨hb, ⟨hne, _⟩ | ⟨_, u8, rfl, hu8⟩⟩
  · exact absurd (HFA.out) hne
  rw [HR.out.2.1] at hu8
  obtain ⟨uo8, uc8, rfl⟩ := hu8.open
  have hv8 : SlAt 2 W8 (.slice uo8 n uc8) n (pairCells R2) := by have := PairsAt.at_ hu8 (HR.out.2.2.2); rw [HR.out.2.2.2] at this; exact this
  rw [HR.out.2.2.2]
  have HV8 := Lib.hid hv8
  clear hu8 hv8
  have HK8 := Lib.hid (HK7.out.next hb)
  clear hb
  (try clear c0 f0)
  (try clear c1 f1)
  obtain ⟨c0, f0, l0⟩ := cells_of_block HK8.out.blk.2
  obtain ⟨c1, f1, l1⟩ := cells_of_block HK8.out.blk.1
  have HK8 := Lib.hid (HK8.out.add HV8.out (last_at HV8.out))
  go_wp2_with fail
  refine (rField_any l.field (.slice ot l.field.tallies.length ct) W8 (HA.out.1.below HK8.out.below (Nat.le_refl _)) (by have := HM.out.2.2.1; omega)).mono ?_
  rintro e W9 ⟨a9, rfl, ht9, hb⟩
  have HL9 := Lib.hid ht9
  clear ht9
  have HK9 := Lib.hid (HK8.out.next hb)
  clear hb
  (try clear c0 f0)
  (try clear c1 f1)
  obtain ⟨c0, f0, l0⟩ := cells_of_block HK9.out.blk.2
  obtain ⟨c1, f1, l1⟩ := cells_of_block HK9.out.blk.1
  go_wp2_with fail
  refine (wDone_any l.field a9 W9 HL9.out).mono ?_
  rintro e W10 ⟨hb, ⟨hne, _⟩ | ⟨_, u10, rfl, hu10⟩⟩
  · exact absurd HASK.out hne
  rw [HG.out.2.2.2.1] at hu10
  obtain ⟨uo10, uc10, rfl⟩ := hu10.open
  have hv10 : SlAt 2 W10 (.slice uo10 n uc10) n (pairCells D) := by have := PairsAt.at_ hu10 HG.out.2.2.2.2; rw [HG.out.2.2.2.2] at this; exact this
  rw [HG.out.2.2.2.2]
  have HV10 := Lib.hid hv10
  clear hu10 hv10
  have HK10 := Lib.hid (HK9.out.next hb)
  clear hb
  (try clear c0 f0)
  (try clear c1 f1)
  obtain ⟨c0, f0, l0⟩ := cells_of_block HK10.out.blk.2
  obtain ⟨c1, f1, l1⟩ := cells_of_block HK10.out.blk.1
  have HK10 := Lib.hid (HK10.out.add HV10.out (last_at HV10.out))
  have hwnb : ((n : Int) != l.field.weeders) = false := by rw [HNW.out]; simp
  go_wp2_with fail
  clear hwnb c1 f1
  go_loopw [13] (fun u wr => ∃ i : Nat, i ≤ n ∧ u = .int .i64 i ∧ Below W10.heap.size W10 wr) (fun u _ => n - (intOf u).toNat)
  case atStart => exact ⟨0, Nat.zero_le _, rfl, Below.refl _ _⟩
  case round =>
    obtain ⟨i, hi, rfl, hB⟩ := hrel
    have HKR := Lib.hid (HK10.out.next hB)
    obtain ⟨c2, f2, l2⟩ := cells_of_block HKR.out.blk.2
    have HBR := Lib.hid hB
    clear hB
    by_cases hlt : i < n
    · have hi1 : i < R1.length := by rw [HR.out.2.2.1]; exact hlt
      have hi2 : i < R2.length := by rw [HR.out.2.2.2]; exact hlt
      have hi3 : i < D.length := by rw [HG.out.2.2.2.2]; exact hlt
      obtain ⟨g3, f3, e3, r3, p0, p1⟩ := PairsAt.cell HKR.out.is.1 hi3
      obtain ⟨g5, f5, e5, r5, p2, p3⟩ := PairsAt.cell HKR.out.is.2.1 hi2
      obtain ⟨g7, f7, e7, r7, p4, p5⟩ := PairsAt.cell HKR.out.is.2.2.1 hi1
      have hx1 := HG.out.1 i hlt
      have hx2 := HG.out.2.1 i hlt
      have hx3 := HG.out.2.2.1 i hlt
      rw [show R1.getD i (0, 0) = R1[i] from by simp [List.getD, hi1], show D.getD i (0, 0) = D[i] from by simp [List.getD, hi3]] at hx1
      rw [show R2.getD i (0, 0) = R2[i] from by simp [List.getD, hi2]] at hx2
      rw [show D.getD i (0, 0) = D[i] from by simp [List.getD, hi3]] at hx3
      rw [hx1] at p4 p5
      rw [hx2] at p2
      generalize D[i] = d at *
      clear hx2
      generalize R2[i] = r2 at *
      obtain ⟨d0, d1⟩ := d
      simp only at p0 p1 p4 p5 hx3
      have hltI : (i : Int) < n := by omega
      have hltW : (i : Int) < l.field.weeders := by rw [HNW.out]; exact hltI
      have m0 : 0 ≤ l.rate * d0 ∧ l.rate * d0 ≤ 50 * 7 := ⟨Int.mul_nonneg (by omega) (by omega), Int.mul_le_mul hr.2 hx3.2.1 (by omega) (by omega)⟩
      have m1 : 0 ≤ l.rate * d1 ∧ l.rate * d1 ≤ 50 * 7 := ⟨Int.mul_nonneg (by omega) (by omega), Int.mul_le_mul hr.2 hx3.2.2.2 (by omega) (by omega)⟩
      cases e3
      cases e5
      cases e7
      clear hx1 hx3 hi1 hi2 hi3
      go_wp2_with fail
      refine wp_region_rg 30 [] none [(20, Spec.val (rv (l.rate * d0, l.rate * d1)))] (by as_aux_lemma => kernel_rfl) (by as_aux_lemma => kernel_rfl) ?_
      simp only [List.take_succ_cons, List.take_zero, List.drop_succ_cons, List.drop_zero]
      repeat (first | (refine tree_det (by rfl) _ (by rfl) (fun W hW => by go_simp; (try simp (disch := omega) only [IntWalk.i64_in]); try rfl) ?_; simp only [Act.put, List.setIfInBounds_toArray, List.set_cons_succ, List.set_cons_zero]) | (refine tree_skip (by rfl) (by rfl) ?_; simp only [Act.put, List.setIfInBounds_toArray, List.set_cons_succ, List.set_cons_zero]))
      refine tree_val _ (by rfl) (by rfl) 62 #[iv (l.rate * d0), iv (l.rate * d1)] (fun W hW => by go_simp; try rfl) (fun W hE hF => by exact between_any _ _ W) ?_
      simp only [Act.put, List.setIfInBounds_toArray, List.set_cons_succ, List.set_cons_zero]
      repeat (first | (refine tree_det (by rfl) _ (by rfl) (fun W hW => by go_simp; (try simp (disch := omega) only [IntWalk.i64_in]); try rfl) ?_; simp only [Act.put, List.setIfInBounds_toArray, List.set_cons_succ, List.set_cons_zero]) | (refine tree_skip (by rfl) (by rfl) ?_; simp only [Act.put, List.setIfInBounds_toArray, List.set_cons_succ, List.set_cons_zero]))
      intro X hE hF
      have HX := Lib.hid (bgo HBR.out (Ext.below (show Ext [] wr X from hE)))
      clear hE hF
      go_wp2_with fail
      go_roundw
      case rel => exact ⟨i + 1, by omega, by go_num, HX.out⟩
      case measure => simp [intOf]; omega
    · have hnl : ¬ (i : Int) < l.field.weeders := by rw [HNW.out]; omega
      obtain hq0 | hq11 := HQ.out.2.2
      · have hqb : (q != 0) = false := by rw [hq0]; rfl
        obtain ⟨hin, hil⟩ := HQ.out.2.1 hq0
        obtain ⟨hum, hat⟩ := HKR.out.is.2.2.2.1 hq0
        have HINS := Lib.hid (inside_any _ R1 (.slice uo4 um4 uc4) (.slice uo6 n uc6) wr (PairsAt.of_at hat hum.symm) (PairsAt.of_at HKR.out.is.2.2.1 HR.out.2.2.1) hin)
        clear hin hil hum hat c2 f2 hq0
        go_wp2_with fail
        refine HINS.out.mono ?_
        rintro e W12 ⟨rfl, hb⟩
        have HK12 := Lib.hid (HKR.out.next hb)
        clear hb
        go_wp2_with fail
        refine (awake_any _).mono ?_
        rintro e W13 ⟨rfl, hb⟩
        have HB13 := Lib.hid (bgo HK12.out.below hb)
        clear hb
        go_wp2_with fail
        go_returns
        exact ⟨by simp, HB13.out⟩
      · subst hq11
        clear c2 f2
        go_wp2_with fail
        refine (awake_any _).mono ?_
        rintro e W13 ⟨rfl, hb⟩
        have HB13 := Lib.hid (bgo HKR.out.below hb)
        clear hb
        go_wp2_with fail
        go_returns
        exact ⟨by simp, HB13.out⟩
end Go.Proofs.YtdjgikcnmokjkaaGreat
