/-
  The walk of WageBounds.
-/
import Derived.WalkKit
import Derived.WalkLawsBesides
import Derived.WalkSpells
import Derived.Outline
import Derived.Handy
import Derived.KernelRfl
import Derived.Lib.Hide
import Derived.BigRegion
import Derived.Deep.Cut
import Derived.Test.YtdjgikcnmokjkaaGreatZN
namespace Go.Proofs.YtdjgikcnmokjkaaGreat
open Go.RowKit Go.RG Go.SL Go.Shelf Cou Go.TB
set_option maxHeartbeats 400000
set_option maxRecDepth 10000

set_option maxHeartbeats 8000000 in
theorem WageBounds_any (l : LedgerD) (tv nv : Value) (w : World) (ht : TalliesAt w tv l.field.tallies) (hn : TriplesAt w nv l.notes) :
    Calls Tryz.prog 10 #[lv l tv nv] w (PV (.bool true) w) := by
  have HA := Lib.hid (And.intro ht hn)
  have HR := Lib.hid (zThin_any l tv nv (w.alloc (.cells (lcells l tv nv) 30)) (ht.alloc _) (hn.alloc _))
  obtain ⟨on, cn, rfl⟩ := hn.open
  clear ht hn
  obtain ⟨rd, hrd⟩ : ∃ rd, thinL l = rd := ⟨_, rfl⟩
  rw [hrd] at HR
  have HRD := Lib.hid hrd
  clear hrd
  go_enter Tryz.func10, Tryz.ntmps10
  go_wp2_with fail
  refine HR.out.mono ?_
  rintro e W1 ⟨rfl, hb⟩
  have hk0 := (hb.block w.heap.size (by simp)).trans (heap_new0 w (.cells (lcells l tv (.slice on l.notes.length cn)) 30))
  have HB1 := Lib.hid (And.intro (show Below w.heap.size w W1 from (by repeat (first | exact Below.refl _ _ | assumption | refine bgo ?_ (by assumption) | refine bgoAlloc ?_ _ | refine bgoDrew ?_ | refine bgoSet ?_ (by simp; omega) _))) hk0)
  obtain ⟨c0, f0, l0⟩ := cells_of_block hk0
  clear hb hk0
  cases rd
  · clear c0 f0 l0
    go_wp2_with fail
    refine (awake_any _).mono ?_
    rintro e W2 ⟨rfl, hb⟩
    have HB2 := Lib.hid (bgo HB1.out.1 hb)
    clear hb
    go_wp2_with fail
    go_returns
    exact ⟨by simp, HB2.out⟩
  have HK1 := Lib.hid (Keeps.one HB1.out.1 HB1.out.2)
  obtain ⟨ht7, hn7⟩ := thin_facts HRD.out
  have HM := Lib.hid (And.intro ht7 hn7)
  clear ht7
  obtain ⟨q, hq⟩ : ∃ q, askedErr l true = q := ⟨_, rfl⟩
  have HQ := Lib.hid hq
  clear hq
  by_cases hq0 : q = 0
  case neg =>
    have hqb : (q != 0) = true := by simpa using hq0
    have hqq : (q == q) = true := by simp
    have HQ0 := Lib.hid hq0
    clear hq0
    go_wp2_with fail
    refine (Ledger_any (l) (tv) (.slice on l.notes.length cn) W1 (HA.out.1.below HK1.out.below (Nat.le_refl _)) (HA.out.2.below HK1.out.below (Nat.le_refl _)) (by have := HM.out.1; omega) (by have := HM.out.2; omega)).mono ?_
    rintro e W2 ⟨a2, b2, rfl, ht2, hn2, hb⟩
    have HL2 := Lib.hid (And.intro ht2 hn2)
    clear ht2 hn2
    have HK2 := Lib.hid (HK1.out.next hb)
    clear hb
    (try clear c0 f0)
    obtain ⟨c0, f0, l0⟩ := cells_of_block HK2.out.blk
    go_wp2_with fail
    refine (Earned_any l a2 b2 W2 HL2.out.1 HL2.out.2).mono ?_
    rintro e W3 ⟨hb, ⟨_, rfl⟩ | ⟨h0, _⟩⟩
    case inr => exact absurd ((HQ.out).symm.trans h0) HQ0.out
    rw [HQ.out]
    have HK3 := Lib.hid (HK2.out.next hb)
    clear hb
    (try clear c0 f0)
    obtain ⟨c0, f0, l0⟩ := cells_of_block HK3.out.blk
    go_wp2_with fail
    refine (Ledger_any (l) (tv) (.slice on l.notes.length cn) W3 (HA.out.1.below HK3.out.below (Nat.le_refl _)) (HA.out.2.below HK3.out.below (Nat.le_refl _)) (by have := HM.out.1; omega) (by have := HM.out.2; omega)).mono ?_
    rintro e W4 ⟨a4, b4, rfl, ht4, hn4, hb⟩
    have HL4 := Lib.hid (And.intro ht4 hn4)
    clear ht4 hn4
    have HK4 := Lib.hid (HK3.out.next hb)
    clear hb
    (try clear c0 f0)
    obtain ⟨c0, f0, l0⟩ := cells_of_block HK4.out.blk
    go_wp2_with fail
    refine (Paid_any l a4 b4 W4 HL4.out.1 HL4.out.2).mono ?_
    rintro e W5 ⟨hb, ⟨_, rfl⟩ | ⟨h0, _⟩⟩
    case inr => exact absurd ((HQ.out).symm.trans h0) HQ0.out
    rw [HQ.out]
    have HK5 := Lib.hid (HK4.out.next hb)
    clear hb
    (try clear c0 f0)
    obtain ⟨c0, f0, l0⟩ := cells_of_block HK5.out.blk
    go_wp2_with fail
    refine (Ledger_any (l) (tv) (.slice on l.notes.length cn) W5 (HA.out.1.below HK5.out.below (Nat.le_refl _)) (HA.out.2.below HK5.out.below (Nat.le_refl _)) (by have := HM.out.1; omega) (by have := HM.out.2; omega)).mono ?_
    rintro e W6 ⟨a6, b6, rfl, ht6, hn6, hb⟩
    have HL6 := Lib.hid (And.intro ht6 hn6)
    clear ht6 hn6
    have HK6 := Lib.hid (HK5.out.next hb)
    clear hb
    (try clear c0 f0)
    obtain ⟨c0, f0, l0⟩ := cells_of_block HK6.out.blk
    go_wp2_with fail
    refine (Owed_any l a6 b6 W6 HL6.out.1 HL6.out.2).mono ?_
    rintro e W7 ⟨hb, ⟨_, rfl⟩ | ⟨h0, _⟩⟩
    case inr => exact absurd ((HQ.out).symm.trans h0) HQ0.out
    rw [HQ.out]
    have HK7 := Lib.hid (HK6.out.next hb)
    clear hb
    (try clear c0 f0)
    obtain ⟨c0, f0, l0⟩ := cells_of_block HK7.out.blk
    go_wp2_with fail
    refine (sure_any l tv (.slice on l.notes.length cn) W7 (HA.out.1.below HK7.out.below (Nat.le_refl _)) (HA.out.2.below HK7.out.below (Nat.le_refl _))).mono ?_
    rintro e W8 ⟨hb, ⟨_, rfl⟩ | ⟨h0, _⟩⟩
    case inr => exact absurd ((HQ.out).symm.trans h0) HQ0.out
    rw [HQ.out]
    have HK8 := Lib.hid (HK7.out.next hb)
    clear hb
    (try clear c0 f0)
    obtain ⟨c0, f0, l0⟩ := cells_of_block HK8.out.blk
    go_wp2_with fail
    refine (awake_any _).mono ?_
    rintro e W9 ⟨rfl, hb⟩
    have HB9 := Lib.hid (bgo HK8.out.below hb)
    clear hb
    go_wp2_with fail
    go_returns
    exact ⟨by simp, HB9.out⟩
  subst hq0
  obtain ⟨hS, hsm⟩ := asked_ok HQ.out
  have hF := soundF_of hS.field
  obtain ⟨n, hnw⟩ : ∃ n : Nat, l.field.weeders = n := ⟨l.field.weeders.toNat, by have := hF.weed0; omega⟩
  have hwt : l.field.weeders.toNat = n := by omega
  have hn3 : n ≤ 3 := by have := hF.weed1; omega
  have k1 : (bndL partE l (duesT l)).length = n := by rw [least_len hS hsm]; exact hwt
  have k2 : (bndL partP l (duesT l)).length = n := by rw [least_len hS hsm]; exact hwt
  have k3 : (bndL partO l (duesT l)).length = n := by rw [least_len hS hsm]; exact hwt
  have hpl := fun (i : Nat) (hi : i < n) => bnd_plain HQ.out (w := i) (by omega)
  obtain ⟨R1, hR1⟩ : ∃ R, bndL partE l (duesT l) = R := ⟨_, rfl⟩
  obtain ⟨R2, hR2⟩ : ∃ R, bndL partP l (duesT l) = R := ⟨_, rfl⟩
  obtain ⟨R3, hR3⟩ : ∃ R, bndL partO l (duesT l) = R := ⟨_, rfl⟩
  rw [hR1] at k1
  rw [hR2] at k2
  rw [hR3] at k3
  simp only [hR1, hR2, hR3] at hpl
  have HR1 := Lib.hid (And.intro hR1 k1)
  have HR2 := Lib.hid (And.intro hR2 k2)
  have HR3 := Lib.hid (And.intro hR3 k3)
  have HPL := Lib.hid hpl
  have HNW := Lib.hid (And.intro hnw hwt)
  have HS := Lib.hid hS
  have hwnb : ((n : Int) != l.field.weeders) = false := by rw [hnw]; simp
  clear hS hsm hF hwt k1 k2 k3 hR1 hR2 hR3 hpl hnw
  go_wp2_with fail
  refine (Ledger_any (l) (tv) (.slice on l.notes.length cn) W1 (HA.out.1.below HK1.out.below (Nat.le_refl _)) (HA.out.2.below HK1.out.below (Nat.le_refl _)) (by have := HM.out.1; omega) (by have := HM.out.2; omega)).mono ?_
  rintro e W2 ⟨a2, b2, rfl, ht2, hn2, hb⟩
  have HL2 := Lib.hid (And.intro ht2 hn2)
  clear ht2 hn2
  have HK2 := Lib.hid (HK1.out.next hb)
  clear hb
  (try clear c0 f0)
  obtain ⟨c0, f0, l0⟩ := cells_of_block HK2.out.blk
  go_wp2_with fail
  refine (Earned_any (l) a2 b2 W2 HL2.out.1 HL2.out.2).mono ?_
  rintro e W3 ⟨hb, ⟨hne, _⟩ | ⟨_, u3, rfl, hu3⟩⟩
  · exact absurd (HQ.out) hne
  rw [HR1.out.1] at hu3
  obtain ⟨uo3, uc3, rfl⟩ := hu3.open
  have hv3 : SlAt 2 W3 (.slice uo3 n uc3) n (pairCells R1) := by have := PairsAt.at_ hu3 (HR1.out.2); rw [HR1.out.2] at this; exact this
  rw [HR1.out.2]
  have HV3 := Lib.hid hv3
  clear hu3 hv3
  have HK3 := Lib.hid (HK2.out.next hb)
  clear hb
  (try clear c0 f0)
  obtain ⟨c0, f0, l0⟩ := cells_of_block HK3.out.blk
  have HK3 := Lib.hid (HK3.out.add HV3.out (last_at HV3.out))
  go_wp2_with fail
  refine (Ledger_any (l) (tv) (.slice on l.notes.length cn) W3 (HA.out.1.below HK3.out.below (Nat.le_refl _)) (HA.out.2.below HK3.out.below (Nat.le_refl _)) (by have := HM.out.1; omega) (by have := HM.out.2; omega)).mono ?_
  rintro e W4 ⟨a4, b4, rfl, ht4, hn4, hb⟩
  have HL4 := Lib.hid (And.intro ht4 hn4)
  clear ht4 hn4
  have HK4 := Lib.hid (HK3.out.next hb)
  clear hb
  (try clear c0 f0)
  obtain ⟨c0, f0, l0⟩ := cells_of_block HK4.out.blk
  go_wp2_with fail
  refine (Paid_any (l) a4 b4 W4 HL4.out.1 HL4.out.2).mono ?_
  rintro e W5 ⟨hb, ⟨hne, _⟩ | ⟨_, u5, rfl, hu5⟩⟩
  · exact absurd (HQ.out) hne
  rw [HR2.out.1] at hu5
  obtain ⟨uo5, uc5, rfl⟩ := hu5.open
  have hv5 : SlAt 2 W5 (.slice uo5 n uc5) n (pairCells R2) := by have := PairsAt.at_ hu5 (HR2.out.2); rw [HR2.out.2] at this; exact this
  rw [HR2.out.2]
  have HV5 := Lib.hid hv5
  clear hu5 hv5
  have HK5 := Lib.hid (HK4.out.next hb)
  clear hb
  (try clear c0 f0)
  obtain ⟨c0, f0, l0⟩ := cells_of_block HK5.out.blk
  have HK5 := Lib.hid (HK5.out.add HV5.out (last_at HV5.out))
  go_wp2_with fail
  refine (Ledger_any (l) (tv) (.slice on l.notes.length cn) W5 (HA.out.1.below HK5.out.below (Nat.le_refl _)) (HA.out.2.below HK5.out.below (Nat.le_refl _)) (by have := HM.out.1; omega) (by have := HM.out.2; omega)).mono ?_
  rintro e W6 ⟨a6, b6, rfl, ht6, hn6, hb⟩
  have HL6 := Lib.hid (And.intro ht6 hn6)
  clear ht6 hn6
  have HK6 := Lib.hid (HK5.out.next hb)
  clear hb
  (try clear c0 f0)
  obtain ⟨c0, f0, l0⟩ := cells_of_block HK6.out.blk
  go_wp2_with fail
  refine (Owed_any (l) a6 b6 W6 HL6.out.1 HL6.out.2).mono ?_
  rintro e W7 ⟨hb, ⟨hne, _⟩ | ⟨_, u7, rfl, hu7⟩⟩
  · exact absurd (HQ.out) hne
  rw [HR3.out.1] at hu7
  obtain ⟨uo7, uc7, rfl⟩ := hu7.open
  have hv7 : SlAt 2 W7 (.slice uo7 n uc7) n (pairCells R3) := by have := PairsAt.at_ hu7 (HR3.out.2); rw [HR3.out.2] at this; exact this
  rw [HR3.out.2]
  have HV7 := Lib.hid hv7
  clear hu7 hv7
  have HK7 := Lib.hid (HK6.out.next hb)
  clear hb
  (try clear c0 f0)
  obtain ⟨c0, f0, l0⟩ := cells_of_block HK7.out.blk
  have HK7 := Lib.hid (HK7.out.add HV7.out (last_at HV7.out))
  go_wp2_with fail
  refine (sure_any l tv (.slice on l.notes.length cn) W7 (HA.out.1.below HK7.out.below (Nat.le_refl _)) (HA.out.2.below HK7.out.below (Nat.le_refl _))).mono ?_
  rintro e W8 ⟨hb, ⟨hne, _⟩ | ⟨_, ev, es, rfl, hes, hmap, hesne⟩⟩
  · exact absurd (HQ.out) hne
  obtain ⟨eo, ec, rfl⟩ := hes.1.open
  have HES := Lib.hid (And.intro hes (And.intro hmap hesne))
  have hel := hes.1.len
  clear hes hmap hesne
  have HK8 := Lib.hid (HK7.out.next hb)
  clear hb
  (try clear c0 f0)
  obtain ⟨c0, f0, l0⟩ := cells_of_block HK8.out.blk
  have HK8 := Lib.hid (HK8.out.add (T := fun W => ListsAt W (.slice eo es.length ec) es) HES.out.1 (last_lists HES.out.1))
  go_wp2_with fail
  clear c0 f0 hwnb
  go_loopw [12] (fun u wr => ∃ i : Nat, i ≤ n ∧ u = .int .i64 i ∧ Below W8.heap.size W8 wr) (fun u _ => n - (intOf u).toNat)
  case atStart => exact ⟨0, Nat.zero_le _, rfl, Below.refl _ _⟩
  case round =>
    obtain ⟨i, hi, rfl, hB⟩ := hrel
    have HKR := Lib.hid ((HK8.out.next hB).add (T := fun W => Below W8.heap.size W8 W) hB (fun W' h => bgo hB h))
    obtain ⟨c0, f0, l0'⟩ := cells_of_block HKR.out.blk
    clear hB
    by_cases hlt : i < n
    · have hltI : (i : Int) < n := by omega
      have hltW : (i : Int) < l.field.weeders := by rw [HNW.out.1]; exact hltI
      have HBO := Lib.hid (zBounds_any HS.out tv (.slice on l.notes.length cn) (.slice eo es.length ec) es i wr (HA.out.2.below HKR.out.below (Nat.le_refl _)) HKR.out.is.2.1 HES.out.2.1 (by rw [HNW.out.2]; exact hlt))
      obtain ⟨e1, e2, e3⟩ := HPL.out i hlt
      rw [e1, e2, e3] at HBO
      have hi1 : i < R1.length := by rw [HR1.out.2]; exact hlt
      have hi2 : i < R2.length := by rw [HR2.out.2]; exact hlt
      have hi3 : i < R3.length := by rw [HR3.out.2]; exact hlt
      have g1 : R1.getD i (0, 0) = R1[i] := by simp [List.getD, hi1]
      have g2 : R2.getD i (0, 0) = R2[i] := by simp [List.getD, hi2]
      have g3 : R3.getD i (0, 0) = R3[i] := by simp [List.getD, hi3]
      rw [g1, g2, g3] at HBO
      have HG := Lib.hid (And.intro g1 (And.intro g2 g3))
      clear e1 e2 e3 g1 g2 g3
      go_wp2_with fail
      refine HBO.out.mono ?_
      rintro e Wa ⟨rfl, hb⟩
      have HKA := Lib.hid (HKR.out.next hb)
      clear hb HBO c0 f0
      go_upto_region 16 with (fail)
      refine gworld fun Wb hWb => ?_
      obtain ⟨g13, hg13⟩ : ∃ g, Wa.heap.size = g := ⟨_, rfl⟩
      have hx1 : Wb.heap[g13]? = some (.cells #[iv (R1[i]).1, iv (R1[i]).2] 27 (0, 0)) := by rw [hWb, ← hg13]; exact (Below.heap_alloc _ _ _ (by first | omega | (simp; done) | (simp; omega))).trans ((Below.heap_alloc _ _ _ (by first | omega | (simp; done) | (simp; omega))).trans (heap_new0 _ _))
      have hx2 : Wb.heap[g13 + 1]? = some (.cells #[iv (R2[i]).1, iv (R2[i]).2] 27 (0, 0)) := by rw [hWb, ← hg13]; exact (Below.heap_alloc _ _ _ (by first | omega | (simp; done) | (simp; omega))).trans (heap_new1 _ _ _)
      have hx3 : Wb.heap[g13 + 1 + 1]? = some (.cells #[iv (R3[i]).1, iv (R3[i]).2] 27 (0, 0)) := by rw [hWb, ← hg13]; exact heap_new2 _ _ _ _
      have HKB := Lib.hid (HKA.out.next (by rw [hWb]; exact bgoAlloc (bgoAlloc (bgoAlloc (Below.refl _ _) _) _) _ : Below Wa.heap.size Wa Wb))
      rw [hg13]
      obtain ⟨x1, y1, z1⟩ := cells_of_block hx1
      obtain ⟨x2, y2, z2⟩ := cells_of_block hx2
      obtain ⟨x3, y3, z3⟩ := cells_of_block hx3
      obtain ⟨b3, o3, h3, j3, p4, p5⟩ := PairsAt.cell HKB.out.is.2.2.1 hi3
      obtain ⟨b2, o2, h2, j2, p2, p3⟩ := PairsAt.cell HKB.out.is.2.2.2.1 hi2
      obtain ⟨b1, o1, h1, j1, p0, p1⟩ := PairsAt.cell HKB.out.is.2.2.2.2.1 hi1
      generalize R1[i] = r1 at *
      generalize R2[i] = r2 at *
      generalize R3[i] = r3 at *
      obtain ⟨r10, r11⟩ := r1
      obtain ⟨r20, r21⟩ := r2
      obtain ⟨r30, r31⟩ := r3
      simp only at p0 p1 p2 p3 p4 p5 x1 x2 x3
      cases h1
      cases h2
      cases h3
      clear hWb hg13 hx1 hx2 hx3 hi1 hi2 hi3
      refine wp_region_rg 25 [] none [(5, Spec.val (rv (r10, r11))), (13, Spec.val (rv (r20, r21))), (22, Spec.val (rv (r30, r31)))] (by as_aux_lemma => kernel_rfl) (by as_aux_lemma => kernel_rfl) ?_
      simp only [List.take_succ_cons, List.take_zero, List.drop_succ_cons, List.drop_zero]
      repeat (first | (refine tree_det (by rfl) _ (by rfl) (fun W hW => by go_simp; (try simp (disch := omega) only [IntWalk.i64_in]); try rfl) ?_; simp only [Act.put, List.setIfInBounds_toArray, List.set_cons_succ, List.set_cons_zero]) | (refine tree_skip (by rfl) (by rfl) ?_; simp only [Act.put, List.setIfInBounds_toArray, List.set_cons_succ, List.set_cons_zero]))
      refine tree_val _ (by rfl) (by rfl) 31 #[rv (r10, r11)] (fun W hW => by go_simp; try rfl) (fun W hE hF => by exact zto_any _ W) ?_
      simp only [Act.put, List.setIfInBounds_toArray, List.set_cons_succ, List.set_cons_zero]
      repeat (first | (refine tree_det (by rfl) _ (by rfl) (fun W hW => by go_simp; (try simp (disch := omega) only [IntWalk.i64_in]); try rfl) ?_; simp only [Act.put, List.setIfInBounds_toArray, List.set_cons_succ, List.set_cons_zero]) | (refine tree_skip (by rfl) (by rfl) ?_; simp only [Act.put, List.setIfInBounds_toArray, List.set_cons_succ, List.set_cons_zero]))
      refine tree_val _ (by rfl) (by rfl) 31 #[rv (r20, r21)] (fun W hW => by go_simp; try rfl) (fun W hE hF => by exact zto_any _ W) ?_
      simp only [Act.put, List.setIfInBounds_toArray, List.set_cons_succ, List.set_cons_zero]
      repeat (first | (refine tree_det (by rfl) _ (by rfl) (fun W hW => by go_simp; (try simp (disch := omega) only [IntWalk.i64_in]); try rfl) ?_; simp only [Act.put, List.setIfInBounds_toArray, List.set_cons_succ, List.set_cons_zero]) | (refine tree_skip (by rfl) (by rfl) ?_; simp only [Act.put, List.setIfInBounds_toArray, List.set_cons_succ, List.set_cons_zero]))
      refine tree_val _ (by rfl) (by rfl) 31 #[rv (r30, r31)] (fun W hW => by go_simp; try rfl) (fun W hE hF => by exact zto_any _ W) ?_
      simp only [Act.put, List.setIfInBounds_toArray, List.set_cons_succ, List.set_cons_zero]
      repeat (first | (refine tree_det (by rfl) _ (by rfl) (fun W hW => by go_simp; (try simp (disch := omega) only [IntWalk.i64_in]); try rfl) ?_; simp only [Act.put, List.setIfInBounds_toArray, List.set_cons_succ, List.set_cons_zero]) | (refine tree_skip (by rfl) (by rfl) ?_; simp only [Act.put, List.setIfInBounds_toArray, List.set_cons_succ, List.set_cons_zero]))
      intro X hE hF
      have HX := Lib.hid (bgo HKB.out.is.1 (Ext.below (show Ext [] Wb X from hE)))
      clear hE hF
      go_wp2_with fail
      go_roundw
      case rel => exact ⟨i + 1, by omega, by go_num, HX.out⟩
      case measure => simp [intOf]; omega
    · have hnl : ¬ (i : Int) < l.field.weeders := by rw [HNW.out.1]; omega
      go_wp2_with fail
      refine (awake_any _).mono ?_
      rintro e Wz ⟨rfl, hb⟩
      have HBZ := Lib.hid (bgo HKR.out.below hb)
      clear hb c0 f0
      go_wp2_with fail
      go_returns
      exact ⟨by simp, HBZ.out⟩
end Go.Proofs.YtdjgikcnmokjkaaGreat
