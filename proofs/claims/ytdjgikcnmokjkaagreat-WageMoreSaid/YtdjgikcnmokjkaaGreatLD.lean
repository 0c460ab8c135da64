/-
  The walk of WageMore.
-/
import Derived.WalkKit
import Derived.WalkLawsBesides
import Derived.WalkSpells
import Derived.Outline
import Derived.Handy
import Derived.KernelRfl
import Derived.Lib.Hide
import Derived.BigRegion
import Derived.Deep.Cut
import Derived.Test.YtdjgikcnmokjkaaGreatZF
import Derived.Test.YtdjgikcnmokjkaaGreatVO
import Derived.Test.YtdjgikcnmokjkaaGreatKE
namespace Go.Proofs.YtdjgikcnmokjkaaGreat
open Go.RowKit Go.RG Go.SL Go.Shelf Cou Go.TB
set_option maxHeartbeats 400000
set_option maxRecDepth 10000

theorem tNotes9m : SliceT Tryz.prog 28 77 (xv (0, 0, 0)) 3 24 := ⟨Tryz.underlying28, by kernel_rfl, rfl, by omega⟩

set_option maxHeartbeats 8000000 in
theorem WageMore_any (l : LedgerD) (tv nv : Value) (m : Rdg) (mo : Int) (w : World) (ht : TalliesAt w tv l.field.tallies) (hn : TriplesAt w nv l.notes) (h0 : 0 ≤ mo ∧ mo ≤ 255) (hrx : l.notes.length * 24 ≤ 140737488351232) :
    Calls Tryz.prog 17 #[lv l tv nv, xv m, .int .u8 mo] w (PV (.bool true) w) := by
  have hlx := hn.len
  have HA := Lib.hid (And.intro ht hn)
  obtain ⟨on, cn, rfl⟩ := hn.open
  obtain ⟨ot, ct, rfl⟩ := ht.open
  clear ht hn
  obtain ⟨m0, m1, m2⟩ := m
  go_enter Tryz.func17, Tryz.ntmps17
  go_wp2_with fail
  refine gworld fun V0 hV0 => ?_
  have HBW := Lib.hid (show Below w.heap.size w V0 from by rw [hV0]; exact (by repeat (first | exact Below.refl _ _ | assumption | refine bgo ?_ (by assumption) | refine bgoAlloc ?_ _ | refine bgoDrew ?_ | refine bgoSet ?_ (by simp; omega) _)))
  have HA0 := Lib.hid (show V0.heap[w.heap.size]? = some (.cells (lcells l (.slice ot l.field.tallies.length ct) (.slice on l.notes.length cn)) 30 (0, 0)) from by rw [hV0]; exact (Below.heap_alloc _ _ _ (by first | omega | (simp; done) | (simp; omega))).trans ((Below.heap_alloc _ _ _ (by first | omega | (simp; done) | (simp; omega))).trans (heap_new0 _ _)))
  have HM0 := Lib.hid (show V0.heap[w.heap.size + 1]? = some (.cells #[iv m0, iv m1, iv m2] 77 (0, 0)) from by rw [hV0]; exact (Below.heap_alloc _ _ _ (by first | omega | (simp; done) | (simp; omega))).trans (heap_new1 _ _ _))
  have HY0 := Lib.hid (show V0.heap[w.heap.size + 1 + 1]? = some (.cells (lcells l (.slice ot l.field.tallies.length ct) (.slice on l.notes.length cn)) 30 (0, 0)) from by rw [hV0]; exact heap_new2 _ _ _ _)
  clear hV0
  have HX00 := Lib.hid (HA.out.2.below HBW.out (Nat.le_refl _))
  obtain ⟨hc1, _, hs1⟩ := cells_of_block HA0.out
  obtain ⟨hc2, _, hs2⟩ := cells_of_block HM0.out
  obtain ⟨hc3, _, hs3⟩ := cells_of_block HY0.out
  refine wp_region_rg 6 [] none [(0, Spec.slice V0.heap.size #[] 77 0), (3, ⟨fun _ v => ∃ o c, v = .slice o l.notes.length c, fun _ v Wx => Wx.ownsRow V0.heap.size 77 3 v l.notes.length (tripleCells l.notes)⟩), (5, Spec.slice V0.heap.size #[iv m0, iv m1, iv m2] 77 1)] (by as_aux_lemma => kernel_rfl) (by as_aux_lemma => kernel_rfl) ?_
  simp only [List.take_succ_cons, List.take_zero, List.drop_succ_cons, List.drop_zero]
  repeat (first | (refine tree_det (by rfl) _ (by rfl) (fun W hW => by go_simp; try rfl) ?_; simp only [Act.put, List.setIfInBounds_toArray, List.set_cons_succ, List.set_cons_zero]) | (refine tree_skip (by rfl) (by rfl) ?_; simp only [Act.put, List.setIfInBounds_toArray, List.set_cons_succ, List.set_cons_zero]))
  refine tree_slice V0.heap.size _ _ 0 (by rfl) (Nat.le_refl _) (by rfl) (by simp) (by simp) (fun W hW => by go_simp; try rfl) (fun b0 => ?_)
  simp only [Act.put, List.setIfInBounds_toArray, List.set_cons_succ, List.set_cons_zero]
  repeat (first | (refine tree_det (by rfl) _ (by rfl) (fun W hW => by go_simp; try rfl) ?_; simp only [Act.put, List.setIfInBounds_toArray, List.set_cons_succ, List.set_cons_zero]) | (refine tree_skip (by rfl) (by rfl) ?_; simp only [Act.put, List.setIfInBounds_toArray, List.set_cons_succ, List.set_cons_zero]))
  refine tree_some _ (by rfl) (by rfl) (by exact ⟨.slice none l.notes.length 0, none, 0, rfl⟩) (fun W hE hF => ?_) (fun v Wa Wb ho hE => owns_ext (Ms := []) ho hE (by simp)) (fun v hv => ?_)
  · have hE' : Ext [] V0 W := hE
    obtain ⟨b', hb', hge, hc⟩ := hF _ (List.Mem.head _) (by kernel_rfl)
    cases hb'
    refine Does.mono (does_append_empty tNotes9m (by rfl) (by rfl) hge hc (by rfl) (HX00.out.below hE'.below (Nat.le_refl _)) (one_triples _) (by omega) (by omega) hE'.size) ?_
    rintro v W' ⟨ho, hE2⟩
    exact ⟨owns_slice ho, ho, hE2⟩
  obtain ⟨o3, c3, rfl⟩ := hv
  simp only [Act.put, List.setIfInBounds_toArray, List.set_cons_succ, List.set_cons_zero]
  repeat (first | (refine tree_det (by rfl) _ (by rfl) (fun W hW => by go_simp; try rfl) ?_; simp only [Act.put, List.setIfInBounds_toArray, List.set_cons_succ, List.set_cons_zero]) | (refine tree_skip (by rfl) (by rfl) ?_; simp only [Act.put, List.setIfInBounds_toArray, List.set_cons_succ, List.set_cons_zero]))
  refine tree_slice V0.heap.size _ _ 1 (by rfl) (Nat.le_refl _) (by rfl) (by simp) (by simp) (fun W hW => by go_simp; try rfl) (fun b5 => ?_)
  simp only [Act.put, List.setIfInBounds_toArray, List.set_cons_succ, List.set_cons_zero]
  repeat (first | (refine tree_det (by rfl) _ (by rfl) (fun W hW => by go_simp; try rfl) ?_; simp only [Act.put, List.setIfInBounds_toArray, List.set_cons_succ, List.set_cons_zero]) | (refine tree_skip (by rfl) (by rfl) ?_; simp only [Act.put, List.setIfInBounds_toArray, List.set_cons_succ, List.set_cons_zero]))
  intro W2 hE hF
  have hE' : Ext [] V0 W2 := hE
  obtain ⟨b5', hb5, hge5, hc5⟩ := hF _ (List.Mem.head _)
  cases hb5
  have hown : W2.ownsRow V0.heap.size 77 3 (.slice o3 l.notes.length c3) l.notes.length (tripleCells l.notes) := hF _ (List.Mem.tail _ (List.Mem.head _))
  have HE2 := Lib.hid hE'
  have HOW := Lib.hid hown
  have HSRC : Hid (SlAt 3 W2 (.slice (some ⟨b5, 0, none⟩) 1 1) 1 (tripleCells [(m0, m1, m2)])) := Lib.hid (SlAt.of_block 3 1 hc5 rfl (by decide))
  have hsz2 := hE'.size
  clear hE hF hE' hown hc5 hc1 hc2 hc3
  go_wp2_with (at_builtin; refine wpList_append rfl _ _ tNotes9m rfl V0.heap.size (.slice o3 l.notes.length c3) l.notes.length (tripleCells l.notes) rfl HOW.out (.slice (some ⟨b5, 0, none⟩) 1 1) 1 (tripleCells [(m0, m1, m2)]) rfl HSRC.out (one_triples _) (by omega) (by omega) (by omega) ?_)
  intro v' w1 hown hgrow
  have hB1 : Below V0.heap.size V0 w1 := Below.grown HE2.out.below hgrow hsz2 (fun k e => (owns_ge HOW.out k e).1)
  obtain ⟨ov, cv, rfl⟩ := owns_slice hown
  have hY1 := (hB1.block _ hs3).trans HY0.out
  obtain ⟨hc3, _, hs3'⟩ := cells_of_block hY1
  obtain ⟨hcA, _, hsA⟩ := cells_of_block ((hB1.block _ hs1).trans HA0.out)
  have HY1 := Lib.hid hY1
  have HOV := Lib.hid hown
  have HBW1 := Lib.hid hB1
  clear hown hgrow hY1 hB1
  go_wp2_with fail
  refine gworldC fun W0 hW0 => ?_
  have HBB := Lib.hid (show Below w.heap.size w W0 from by rw [hW0]; exact bgoSet (bgo HBW.out HBW1.out) (by show w.heap.size ≤ w.heap.size + 1 + 1; omega) _)
  have HX1 := Lib.hid (show W0.heap[w.heap.size]? = some (.cells (lcells l (.slice ot l.field.tallies.length ct) (.slice on l.notes.length cn)) 30 (0, 0)) from by rw [hW0]; exact (Below.heap_setCell _ _ _ _ (by show w.heap.size ≠ w.heap.size + 1 + 1; omega)).trans ((HBW1.out.block _ hs1).trans HA0.out))
  have HX2 := Lib.hid (show W0.heap[w.heap.size + 1 + 1]? = some (.cells (lcells (addG l (m0, m1, m2)) (.slice ot l.field.tallies.length ct) (.slice ov (l.notes.length + 1) cv)) 30 (0, 0)) from by rw [hW0]; exact set_block HY1.out _)
  have HXR0 : Hid (TriplesAt W0 (.slice ov (l.notes.length + 1) cv) (addG l (m0, m1, m2)).notes) := Lib.hid (by
    show TriplesAt W0 (.slice ov (l.notes.length + 1) cv) (l.notes ++ [(m0, m1, m2)])
    unfold TriplesAt
    rw [List.length_append, hW0]
    have := SlAt.of_owns (owns_ext (Ms := [w.heap.size + 1 + 1]) HOV.out (ext_set w1 ⟨w.heap.size + 1 + 1, 8, none⟩ (.slice ov (l.notes.length + 1) cv)) (by simpa using hs3))
    simpa [tripleCells] using this)
  have HK0 := Lib.hid (((Keeps.one HBB.out HX1.out).more HXR0.out (last_at HXR0.out)).more HX2.out (last_block HX2.out))
  clear hW0 hc3 hcA hsA hs3' hs1 hs2 hs3 hsz2 HOV HY1 HBW1 HE2 HOW HSRC HA0 HM0 HY0 HBW HX00 HBB HX1 HX2 HXR0
  obtain ⟨c0, f0, l0⟩ := cells_of_block HK0.out.blk.2.2
  obtain ⟨c1, f1, l1⟩ := cells_of_block HK0.out.blk.1
  obtain ⟨rd, hrd⟩ : ∃ rd, readyL l = rd := ⟨_, rfl⟩
  obtain ⟨rx, hrx2⟩ : ∃ rx, readyL (addG l (m0, m1, m2)) = rx := ⟨_, rfl⟩
  have HRD := Lib.hid (And.intro hrd hrx2)
  clear hrd hrx2
  cases rd
  · skip
    refine (ready_any (l) (.slice ot l.field.tallies.length ct) (.slice on l.notes.length cn) W0 (HA.out.1.below HK0.out.below (Nat.le_refl _)) (HA.out.2.below HK0.out.below (Nat.le_refl _))).mono ?_
    rw [HRD.out.1]
    rintro e W1 ⟨rfl, hb⟩
    have HK1 := Lib.hid (HK0.out.next hb)
    clear hb
    (try clear c0 f0)
    (try clear c1 f1)
    obtain ⟨c0, f0, l0⟩ := cells_of_block HK1.out.blk.2.2
    obtain ⟨c1, f1, l1⟩ := cells_of_block HK1.out.blk.1
    go_wp2_with fail
    refine (awake_any _).mono ?_
    rintro e W2 ⟨rfl, hb⟩
    have HB2 := Lib.hid (bgo HK1.out.below hb)
    clear hb
    go_wp2_with fail
    go_returns
    exact ⟨by simp, HB2.out⟩
  cases rx
  · skip
    refine (ready_any (l) (.slice ot l.field.tallies.length ct) (.slice on l.notes.length cn) W0 (HA.out.1.below HK0.out.below (Nat.le_refl _)) (HA.out.2.below HK0.out.below (Nat.le_refl _))).mono ?_
    rw [HRD.out.1]
    rintro e W1 ⟨rfl, hb⟩
    have HK1 := Lib.hid (HK0.out.next hb)
    clear hb
    (try clear c0 f0)
    (try clear c1 f1)
    obtain ⟨c0, f0, l0⟩ := cells_of_block HK1.out.blk.2.2
    obtain ⟨c1, f1, l1⟩ := cells_of_block HK1.out.blk.1
    go_wp2_with fail
    refine (ready_any (addG l (m0, m1, m2)) (.slice ot l.field.tallies.length ct) (.slice ov (l.notes.length + 1) cv) W1 (HA.out.1.below HK1.out.below (Nat.le_refl _)) (HK1.out.blk.2.1)).mono ?_
    rw [HRD.out.2]
    rintro e W2 ⟨rfl, hb⟩
    have HK2 := Lib.hid (HK1.out.next hb)
    clear hb
    (try clear c0 f0)
    (try clear c1 f1)
    obtain ⟨c0, f0, l0⟩ := cells_of_block HK2.out.blk.2.2
    obtain ⟨c1, f1, l1⟩ := cells_of_block HK2.out.blk.1
    go_wp2_with fail
    refine (awake_any _).mono ?_
    rintro e W3 ⟨rfl, hb⟩
    have HB3 := Lib.hid (bgo HK2.out.below hb)
    clear hb
    go_wp2_with fail
    go_returns
    exact ⟨by simp, HB3.out⟩
  obtain ⟨hz, hS, ht5, hn5, _, _⟩ := readyL_facts HRD.out.1
  obtain ⟨hz2, hS2, _, hn52, _, _⟩ := readyL_facts HRD.out.2
  have hw0 := (soundF_of hS.field).weed0
  have hw3 := (soundF_of hS.field).weed1
  have HM := Lib.hid (And.intro hz (And.intro hS (And.intro ht5 (And.intro hn5 (And.intro hw0 hw3)))))
  obtain ⟨e1, e2⟩ := more_leave hz hz2
  have hpl := more_plain hz hz2
  obtain ⟨L1, hL1⟩ : ∃ L, leaveW l = L := ⟨_, rfl⟩
  obtain ⟨L2, hL2⟩ : ∃ L, leaveW (addG l (m0, m1, m2)) = L := ⟨_, rfl⟩
  have hb1 := (leave_is (faultW_sound hz).2).2.1.len
  rw [hL1] at hb1 e1 e2
  rw [hL2] at e1 e2 hpl
  have HL := Lib.hid (And.intro hL1 (And.intro hL2 hz2))
  have HN5 := Lib.hid hn52
  have hm1I : ¬ (L2.length : Int) < L1.length := by omega
  have hm2I : ¬ (L1.length : Int) + 1 < L2.length := by omega
  have hm1d : decide (L2.length < L1.length) = false := decide_eq_false (by omega)
  have hm2d : decide (L1.length + 1 < L2.length) = false := decide_eq_false (by omega)
  have hm3d : decide ((L1.length : Int) + 1 < L2.length) = false := decide_eq_false (by omega)
  have hL1b : L1.length ≤ 5 := by omega
  have HPL := Lib.hid hpl
  clear hz2 hS2 hn52 hpl hL1 hL2 hb1
  by_cases h0L : 0 < L2.length
  case pos =>
    have h0I : (0 : Int) < L2.length := by omega
    clear hz hS ht5 hw0 hw3 e1 e2
    refine (ready_any (l) (.slice ot l.field.tallies.length ct) (.slice on l.notes.length cn) W0 (HA.out.1.below HK0.out.below (Nat.le_refl _)) (HA.out.2.below HK0.out.below (Nat.le_refl _))).mono ?_
    rw [HRD.out.1]
    rintro e W1 ⟨rfl, hb⟩
    have HK1 := Lib.hid (HK0.out.next hb)
    clear hb
    (try clear c0 f0)
    (try clear c1 f1)
    obtain ⟨c0, f0, l0⟩ := cells_of_block HK1.out.blk.2.2
    obtain ⟨c1, f1, l1⟩ := cells_of_block HK1.out.blk.1
    go_wp2_with fail
    refine (ready_any (addG l (m0, m1, m2)) (.slice ot l.field.tallies.length ct) (.slice ov (l.notes.length + 1) cv) W1 (HA.out.1.below HK1.out.below (Nat.le_refl _)) (HK1.out.blk.2.1)).mono ?_
    rw [HRD.out.2]
    rintro e W2 ⟨rfl, hb⟩
    have HK2 := Lib.hid (HK1.out.next hb)
    clear hb
    (try clear c0 f0)
    (try clear c1 f1)
    obtain ⟨c0, f0, l0⟩ := cells_of_block HK2.out.blk.2.2
    obtain ⟨c1, f1, l1⟩ := cells_of_block HK2.out.blk.1
    go_wp2_with fail
    refine (Ledger_any (l) (.slice ot l.field.tallies.length ct) (.slice on l.notes.length cn) W2 (HA.out.1.below HK2.out.below (Nat.le_refl _)) (HA.out.2.below HK2.out.below (Nat.le_refl _)) (by have := HM.out.2.2.1; omega) (by have := HM.out.2.2.2.1; omega)).mono ?_
    rintro e W3 ⟨a3, b3, rfl, ht3, hn3, hb⟩
    have HL3 := Lib.hid (And.intro ht3 hn3)
    clear ht3 hn3
    have HK3 := Lib.hid (HK2.out.next hb)
    clear hb
    (try clear c0 f0)
    (try clear c1 f1)
    obtain ⟨c0, f0, l0⟩ := cells_of_block HK3.out.blk.2.2
    obtain ⟨c1, f1, l1⟩ := cells_of_block HK3.out.blk.1
    go_wp2_with fail
    refine (Leave_any (l) a3 b3 W3 HL3.out.1 HL3.out.2 (by show -1000 ≤ l.field.weeders ∧ l.field.weeders ≤ 1000; have := HM.out.2.2.2.2; omega)).mono ?_
    rintro e W4 ⟨hb, ⟨hne, _⟩ | ⟨_, u4, rfl, hu4⟩⟩
    · exact absurd (HM.out.1) hne
    rw [HL.out.1] at hu4
    obtain ⟨uo4, uc4, rfl⟩ := hu4.open
    have HU4 := Lib.hid hu4
    clear hu4
    have HK4 := Lib.hid (HK3.out.next hb)
    clear hb
    (try clear c0 f0)
    (try clear c1 f1)
    obtain ⟨c0, f0, l0⟩ := cells_of_block HK4.out.blk.2.2
    obtain ⟨c1, f1, l1⟩ := cells_of_block HK4.out.blk.1
    have HK4 := Lib.hid (HK4.out.add (show IntsAt W4 (.slice uo4 (L1).length uc4) (L1) from HU4.out) (last_at HU4.out))
    go_wp2_with fail
    refine (Ledger_any (addG l (m0, m1, m2)) (.slice ot l.field.tallies.length ct) (.slice ov (l.notes.length + 1) cv) W4 (HA.out.1.below HK4.out.below (Nat.le_refl _)) (HK4.out.blk.2.1) (by have := HM.out.2.2.1; show l.field.tallies.length ≤ 1000; omega) (by have := HN5.out; omega)).mono ?_
    rintro e W5 ⟨a5, b5, rfl, ht5, hn5, hb⟩
    have HL5 := Lib.hid (And.intro ht5 hn5)
    clear ht5 hn5
    have HK5 := Lib.hid (HK4.out.next hb)
    clear hb
    (try clear c0 f0)
    (try clear c1 f1)
    obtain ⟨c0, f0, l0⟩ := cells_of_block HK5.out.blk.2.2
    obtain ⟨c1, f1, l1⟩ := cells_of_block HK5.out.blk.1
    go_wp2_with fail
    refine (Leave_any (addG l (m0, m1, m2)) a5 b5 W5 HL5.out.1 HL5.out.2 (by show -1000 ≤ l.field.weeders ∧ l.field.weeders ≤ 1000; have := HM.out.2.2.2.2; omega)).mono ?_
    rintro e W6 ⟨hb, ⟨hne, _⟩ | ⟨_, u6, rfl, hu6⟩⟩
    · exact absurd (HL.out.2.2) hne
    rw [HL.out.2.1] at hu6
    obtain ⟨uo6, uc6, rfl⟩ := hu6.open
    have HU6 := Lib.hid hu6
    clear hu6
    have HK6 := Lib.hid (HK5.out.next hb)
    clear hb
    (try clear c0 f0)
    (try clear c1 f1)
    obtain ⟨c0, f0, l0⟩ := cells_of_block HK6.out.blk.2.2
    obtain ⟨c1, f1, l1⟩ := cells_of_block HK6.out.blk.1
    have HK6 := Lib.hid (HK6.out.add (show IntsAt W6 (.slice uo6 (L2).length uc6) (L2) from HU6.out) (last_at HU6.out))
    go_wp2_with fail
    refine (awake_any _).mono ?_
    rintro e W7 ⟨rfl, hb⟩
    have HB7 := Lib.hid (bgo HK6.out.below hb)
    clear hb
    go_wp2_with fail
    go_returns
    exact ⟨by simp, HB7.out⟩
  obtain rfl : L2 = [] := List.eq_nil_of_length_eq_zero (by omega)
  obtain rfl : L1 = [] := List.eq_nil_of_length_eq_zero (by simp at e1; omega)
  clear hm1I hm2I hm1d hm2d hm3d hL1b h0L e1 e2
  obtain ⟨ha, hax, hi1, hi2, hsf⟩ := HPL.out rfl
  obtain ⟨n, hnw⟩ : ∃ n : Nat, l.field.weeders = n := ⟨l.field.weeders.toNat, by omega⟩
  have hwn : l.field.weeders.toNat = n := by omega
  have k1 : (bndL partE l (duesT l)).length = n := by rw [least_len (asked_ok ha).1 (asked_ok ha).2]; exact hwn
  have k2 : (bndL partE (addG l (m0, m1, m2)) (duesT (addG l (m0, m1, m2)))).length = n := by rw [least_len (asked_ok hax).1 (asked_ok hax).2]; exact hwn
  have k3 : (bndL partO l (duesT l)).length = n := by rw [least_len (asked_ok ha).1 (asked_ok ha).2]; exact hwn
  have k4 : (bndL partO (addG l (m0, m1, m2)) (duesT (addG l (m0, m1, m2)))).length = n := by rw [least_len (asked_ok hax).1 (asked_ok hax).2]; exact hwn
  obtain ⟨R1, hR1⟩ : ∃ R, bndL partE l (duesT l) = R := ⟨_, rfl⟩
  obtain ⟨R2, hR2⟩ : ∃ R, bndL partE (addG l (m0, m1, m2)) (duesT (addG l (m0, m1, m2))) = R := ⟨_, rfl⟩
  obtain ⟨R3, hR3⟩ : ∃ R, bndL partO l (duesT l) = R := ⟨_, rfl⟩
  obtain ⟨R4, hR4⟩ : ∃ R, bndL partO (addG l (m0, m1, m2)) (duesT (addG l (m0, m1, m2))) = R := ⟨_, rfl⟩
  obtain ⟨P, hP⟩ : ∃ P, safeV l mo = P := ⟨_, rfl⟩
  have hsf := hsf mo h0.1
  rw [hP] at hsf
  rw [hR1] at k1 hi1
  rw [hR2] at k2 hi1
  rw [hR3] at k3 hi2
  rw [hR4] at k4 hi2
  have hin : inB mo 0 2000 = true := by unfold inB; simp; omega
  have HR1 := Lib.hid (And.intro hR1 k1)
  have HR2 := Lib.hid (And.intro hR2 k2)
  have HR3 := Lib.hid (And.intro hR3 k3)
  have HR4 := Lib.hid (And.intro hR4 k4)
  have HAS := Lib.hid (And.intro ha (And.intro hax (And.intro hi1 (And.intro hi2 (And.intro hsf (And.intro hP (show askedErr l (inB mo 0 2000) = 0 from by rw [hin]; exact ha)))))))
  clear hz hS ht5 hw0 hw3 ha hax hi1 hi2 hsf hnw hwn k1 k2 k3 k4 hR1 hR2 hR3 hR4 hP hin
  refine (ready_any (l) (.slice ot l.field.tallies.length ct) (.slice on l.notes.length cn) W0 (HA.out.1.below HK0.out.below (Nat.le_refl _)) (HA.out.2.below HK0.out.below (Nat.le_refl _))).mono ?_
  rw [HRD.out.1]
  rintro e W1 ⟨rfl, hb⟩
  have HK1 := Lib.hid (HK0.out.next hb)
  clear hb
  (try clear c0 f0)
  (try clear c1 f1)
  obtain ⟨c0, f0, l0⟩ := cells_of_block HK1.out.blk.2.2
  obtain ⟨c1, f1, l1⟩ := cells_of_block HK1.out.blk.1
  go_wp2_with fail
  refine (ready_any (addG l (m0, m1, m2)) (.slice ot l.field.tallies.length ct) (.slice ov (l.notes.length + 1) cv) W1 (HA.out.1.below HK1.out.below (Nat.le_refl _)) (HK1.out.blk.2.1)).mono ?_
  rw [HRD.out.2]
  rintro e W2 ⟨rfl, hb⟩
  have HK2 := Lib.hid (HK1.out.next hb)
  clear hb
  (try clear c0 f0)
  (try clear c1 f1)
  obtain ⟨c0, f0, l0⟩ := cells_of_block HK2.out.blk.2.2
  obtain ⟨c1, f1, l1⟩ := cells_of_block HK2.out.blk.1
  go_wp2_with fail
  refine (Ledger_any (l) (.slice ot l.field.tallies.length ct) (.slice on l.notes.length cn) W2 (HA.out.1.below HK2.out.below (Nat.le_refl _)) (HA.out.2.below HK2.out.below (Nat.le_refl _)) (by have := HM.out.2.2.1; omega) (by have := HM.out.2.2.2.1; omega)).mono ?_
  rintro e W3 ⟨a3, b3, rfl, ht3, hn3, hb⟩
  have HL3 := Lib.hid (And.intro ht3 hn3)
  clear ht3 hn3
  have HK3 := Lib.hid (HK2.out.next hb)
  clear hb
  (try clear c0 f0)
  (try clear c1 f1)
  obtain ⟨c0, f0, l0⟩ := cells_of_block HK3.out.blk.2.2
  obtain ⟨c1, f1, l1⟩ := cells_of_block HK3.out.blk.1
  go_wp2_with fail
  refine (Leave_any (l) a3 b3 W3 HL3.out.1 HL3.out.2 (by show -1000 ≤ l.field.weeders ∧ l.field.weeders ≤ 1000; have := HM.out.2.2.2.2; omega)).mono ?_
  rintro e W4 ⟨hb, ⟨hne, _⟩ | ⟨_, u4, rfl, hu4⟩⟩
  · exact absurd (HM.out.1) hne
  rw [HL.out.1] at hu4
  obtain ⟨uo4, uc4, rfl⟩ := hu4.open
  have HU4 := Lib.hid hu4
  clear hu4
  have HK4 := Lib.hid (HK3.out.next hb)
  clear hb
  (try clear c0 f0)
  (try clear c1 f1)
  obtain ⟨c0, f0, l0⟩ := cells_of_block HK4.out.blk.2.2
  obtain ⟨c1, f1, l1⟩ := cells_of_block HK4.out.blk.1
  have HK4 := Lib.hid (HK4.out.add (show IntsAt W4 (.slice uo4 (([] : List Int)).length uc4) (([] : List Int)) from HU4.out) (last_at HU4.out))
  go_wp2_with fail
  refine (Ledger_any (addG l (m0, m1, m2)) (.slice ot l.field.tallies.length ct) (.slice ov (l.notes.length + 1) cv) W4 (HA.out.1.below HK4.out.below (Nat.le_refl _)) (HK4.out.blk.2.1) (by have := HM.out.2.2.1; show l.field.tallies.length ≤ 1000; omega) (by have := HN5.out; omega)).mono ?_
  rintro e W5 ⟨a5, b5, rfl, ht5, hn5, hb⟩
  have HL5 := Lib.hid (And.intro ht5 hn5)
  clear ht5 hn5
  have HK5 := Lib.hid (HK4.out.next hb)
  clear hb
  (try clear c0 f0)
  (try clear c1 f1)
  obtain ⟨c0, f0, l0⟩ := cells_of_block HK5.out.blk.2.2
  obtain ⟨c1, f1, l1⟩ := cells_of_block HK5.out.blk.1
  go_wp2_with fail
  refine (Leave_any (addG l (m0, m1, m2)) a5 b5 W5 HL5.out.1 HL5.out.2 (by show -1000 ≤ l.field.weeders ∧ l.field.weeders ≤ 1000; have := HM.out.2.2.2.2; omega)).mono ?_
  rintro e W6 ⟨hb, ⟨hne, _⟩ | ⟨_, u6, rfl, hu6⟩⟩
  · exact absurd (HL.out.2.2) hne
  rw [HL.out.2.1] at hu6
  obtain ⟨uo6, uc6, rfl⟩ := hu6.open
  have HU6 := Lib.hid hu6
  clear hu6
  have HK6 := Lib.hid (HK5.out.next hb)
  clear hb
  (try clear c0 f0)
  (try clear c1 f1)
  obtain ⟨c0, f0, l0⟩ := cells_of_block HK6.out.blk.2.2
  obtain ⟨c1, f1, l1⟩ := cells_of_block HK6.out.blk.1
  have HK6 := Lib.hid (HK6.out.add (show IntsAt W6 (.slice uo6 (([] : List Int)).length uc6) (([] : List Int)) from HU6.out) (last_at HU6.out))
  go_wp2_with fail
  refine (Ledger_any (l) (.slice ot l.field.tallies.length ct) (.slice on l.notes.length cn) W6 (HA.out.1.below HK6.out.below (Nat.le_refl _)) (HA.out.2.below HK6.out.below (Nat.le_refl _)) (by have := HM.out.2.2.1; omega) (by have := HM.out.2.2.2.1; omega)).mono ?_
  rintro e W7 ⟨a7, b7, rfl, ht7, hn7, hb⟩
  have HL7 := Lib.hid (And.intro ht7 hn7)
  clear ht7 hn7
  have HK7 := Lib.hid (HK6.out.next hb)
  clear hb
  (try clear c0 f0)
  (try clear c1 f1)
  obtain ⟨c0, f0, l0⟩ := cells_of_block HK7.out.blk.2.2
  obtain ⟨c1, f1, l1⟩ := cells_of_block HK7.out.blk.1
  go_wp2_with fail
  refine (Earned_any (l) a7 b7 W7 HL7.out.1 HL7.out.2 (by show -1000 ≤ l.field.weeders ∧ l.field.weeders ≤ 1000; have := HM.out.2.2.2.2; omega)).mono ?_
  rintro e W8 ⟨hb, ⟨hne, _⟩ | ⟨_, u8, rfl, hu8⟩⟩
  · exact absurd (HAS.out.1) hne
  rw [HR1.out.1] at hu8
  obtain ⟨uo8, uc8, rfl⟩ := hu8.open
  have hv8 : SlAt 2 W8 (.slice uo8 n uc8) n (pairCells R1) := by have := PairsAt.at_ hu8 (HR1.out.2); rw [HR1.out.2] at this; exact this
  rw [HR1.out.2]
  have HV8 := Lib.hid hv8
  clear hu8 hv8
  have HK8 := Lib.hid (HK7.out.next hb)
  clear hb
  (try clear c0 f0)
  (try clear c1 f1)
  obtain ⟨c0, f0, l0⟩ := cells_of_block HK8.out.blk.2.2
  obtain ⟨c1, f1, l1⟩ := cells_of_block HK8.out.blk.1
  have HK8 := Lib.hid (HK8.out.add HV8.out (last_at HV8.out))
  go_wp2_with fail
  refine (Ledger_any (addG l (m0, m1, m2)) (.slice ot l.field.tallies.length ct) (.slice ov (l.notes.length + 1) cv) W8 (HA.out.1.below HK8.out.below (Nat.le_refl _)) (HK8.out.blk.2.1) (by have := HM.out.2.2.1; show l.field.tallies.length ≤ 1000; omega) (by have := HN5.out; omega)).mono ?_
  rintro e W9 ⟨a9, b9, rfl, ht9, hn9, hb⟩
  have HL9 := Lib.hid (And.intro ht9 hn9)
  clear ht9 hn9
  have HK9 := Lib.hid (HK8.out.next hb)
  clear hb
  (try clear c0 f0)
  (try clear c1 f1)
  obtain ⟨c0, f0, l0⟩ := cells_of_block HK9.out.blk.2.2
  obtain ⟨c1, f1, l1⟩ := cells_of_block HK9.out.blk.1
  go_wp2_with fail
  refine (Earned_any (addG l (m0, m1, m2)) a9 b9 W9 HL9.out.1 HL9.out.2 (by show -1000 ≤ l.field.weeders ∧ l.field.weeders ≤ 1000; have := HM.out.2.2.2.2; omega)).mono ?_
  rintro e W10 ⟨hb, ⟨hne, _⟩ | ⟨_, u10, rfl, hu10⟩⟩
  · exact absurd (HAS.out.2.1) hne
  rw [HR2.out.1] at hu10
  obtain ⟨uo10, uc10, rfl⟩ := hu10.open
  have hv10 : SlAt 2 W10 (.slice uo10 n uc10) n (pairCells R2) := by have := PairsAt.at_ hu10 (HR2.out.2); rw [HR2.out.2] at this; exact this
  rw [HR2.out.2]
  have HV10 := Lib.hid hv10
  clear hu10 hv10
  have HK10 := Lib.hid (HK9.out.next hb)
  clear hb
  (try clear c0 f0)
  (try clear c1 f1)
  obtain ⟨c0, f0, l0⟩ := cells_of_block HK10.out.blk.2.2
  obtain ⟨c1, f1, l1⟩ := cells_of_block HK10.out.blk.1
  have HK10 := Lib.hid (HK10.out.add HV10.out (last_at HV10.out))
  go_wp2_with fail
  refine (Ledger_any (l) (.slice ot l.field.tallies.length ct) (.slice on l.notes.length cn) W10 (HA.out.1.below HK10.out.below (Nat.le_refl _)) (HA.out.2.below HK10.out.below (Nat.le_refl _)) (by have := HM.out.2.2.1; omega) (by have := HM.out.2.2.2.1; omega)).mono ?_
  rintro e W11 ⟨a11, b11, rfl, ht11, hn11, hb⟩
  have HL11 := Lib.hid (And.intro ht11 hn11)
  clear ht11 hn11
  have HK11 := Lib.hid (HK10.out.next hb)
  clear hb
  (try clear c0 f0)
  (try clear c1 f1)
  obtain ⟨c0, f0, l0⟩ := cells_of_block HK11.out.blk.2.2
  obtain ⟨c1, f1, l1⟩ := cells_of_block HK11.out.blk.1
  go_wp2_with fail
  refine (Owed_any (l) a11 b11 W11 HL11.out.1 HL11.out.2 (by show -1000 ≤ l.field.weeders ∧ l.field.weeders ≤ 1000; have := HM.out.2.2.2.2; omega)).mono ?_
  rintro e W12 ⟨hb, ⟨hne, _⟩ | ⟨_, u12, rfl, hu12⟩⟩
  · exact absurd (HAS.out.1) hne
  rw [HR3.out.1] at hu12
  obtain ⟨uo12, uc12, rfl⟩ := hu12.open
  have hv12 : SlAt 2 W12 (.slice uo12 n uc12) n (pairCells R3) := by have := PairsAt.at_ hu12 (HR3.out.2); rw [HR3.out.2] at this; exact this
  rw [HR3.out.2]
  have HV12 := Lib.hid hv12
  clear hu12 hv12
  have HK12 := Lib.hid (HK11.out.next hb)
  clear hb
  (try clear c0 f0)
  (try clear c1 f1)
  obtain ⟨c0, f0, l0⟩ := cells_of_block HK12.out.blk.2.2
  obtain ⟨c1, f1, l1⟩ := cells_of_block HK12.out.blk.1
  have HK12 := Lib.hid (HK12.out.add HV12.out (last_at HV12.out))
  go_wp2_with fail
  refine (Ledger_any (addG l (m0, m1, m2)) (.slice ot l.field.tallies.length ct) (.slice ov (l.notes.length + 1) cv) W12 (HA.out.1.below HK12.out.below (Nat.le_refl _)) (HK12.out.blk.2.1) (by have := HM.out.2.2.1; show l.field.tallies.length ≤ 1000; omega) (by have := HN5.out; omega)).mono ?_
  rintro e W13 ⟨a13, b13, rfl, ht13, hn13, hb⟩
  have HL13 := Lib.hid (And.intro ht13 hn13)
  clear ht13 hn13
  have HK13 := Lib.hid (HK12.out.next hb)
  clear hb
  (try clear c0 f0)
  (try clear c1 f1)
  obtain ⟨c0, f0, l0⟩ := cells_of_block HK13.out.blk.2.2
  obtain ⟨c1, f1, l1⟩ := cells_of_block HK13.out.blk.1
  go_wp2_with fail
  refine (Owed_any (addG l (m0, m1, m2)) a13 b13 W13 HL13.out.1 HL13.out.2 (by show -1000 ≤ l.field.weeders ∧ l.field.weeders ≤ 1000; have := HM.out.2.2.2.2; omega)).mono ?_
  rintro e W14 ⟨hb, ⟨hne, _⟩ | ⟨_, u14, rfl, hu14⟩⟩
  · exact absurd (HAS.out.2.1) hne
  rw [HR4.out.1] at hu14
  obtain ⟨uo14, uc14, rfl⟩ := hu14.open
  have hv14 : SlAt 2 W14 (.slice uo14 n uc14) n (pairCells R4) := by have := PairsAt.at_ hu14 (HR4.out.2); rw [HR4.out.2] at this; exact this
  rw [HR4.out.2]
  have HV14 := Lib.hid hv14
  clear hu14 hv14
  have HK14 := Lib.hid (HK13.out.next hb)
  clear hb
  (try clear c0 f0)
  (try clear c1 f1)
  obtain ⟨c0, f0, l0⟩ := cells_of_block HK14.out.blk.2.2
  obtain ⟨c1, f1, l1⟩ := cells_of_block HK14.out.blk.1
  have HK14 := Lib.hid (HK14.out.add HV14.out (last_at HV14.out))
  go_wp2_with fail
  refine (Ledger_any (l) (.slice ot l.field.tallies.length ct) (.slice on l.notes.length cn) W14 (HA.out.1.below HK14.out.below (Nat.le_refl _)) (HA.out.2.below HK14.out.below (Nat.le_refl _)) (by have := HM.out.2.2.1; omega) (by have := HM.out.2.2.2.1; omega)).mono ?_
  rintro e W15 ⟨a15, b15, rfl, ht15, hn15, hb⟩
  have HL15 := Lib.hid (And.intro ht15 hn15)
  clear ht15 hn15
  have HK15 := Lib.hid (HK14.out.next hb)
  clear hb
  (try clear c0 f0)
  (try clear c1 f1)
  obtain ⟨c0, f0, l0⟩ := cells_of_block HK15.out.blk.2.2
  obtain ⟨c1, f1, l1⟩ := cells_of_block HK15.out.blk.1
  go_wp2_with fail
  refine (Safe_any l a15 b15 mo W15 HL15.out.1 HL15.out.2 (by show -1000 ≤ l.field.weeders ∧ l.field.weeders ≤ 1000; have := HM.out.2.2.2.2; omega)).mono ?_
  rintro e W16 ⟨hb, ⟨hne, _⟩ | ⟨_, u16, rfl, hu16⟩⟩
  · exact absurd HAS.out.2.2.2.2.2.2 hne
  rw [HAS.out.2.2.2.2.2.1] at hu16
  obtain ⟨uo16, uc16, rfl⟩ := hu16.open
  have HU16 := Lib.hid hu16
  clear hu16
  have HK16 := Lib.hid (HK15.out.next hb)
  clear hb
  (try clear c0 f0)
  (try clear c1 f1)
  obtain ⟨c0, f0, l0⟩ := cells_of_block HK16.out.blk.2.2
  obtain ⟨c1, f1, l1⟩ := cells_of_block HK16.out.blk.1
  have HK16 := Lib.hid (HK16.out.add (show IntsAt W16 (.slice uo16 P.length uc16) P from HU16.out) (last_at HU16.out))
  go_wp2_with fail
  refine (inside_any R2 R1 (.slice uo10 n uc10) (.slice uo8 n uc8) W16 (PairsAt.of_at HK16.out.is.2.2.2.1 HR2.out.2) (PairsAt.of_at HK16.out.is.2.2.2.2.1 HR1.out.2) HAS.out.2.2.1).mono ?_
  rintro e W17 ⟨rfl, hb⟩
  have HK17 := Lib.hid (HK16.out.next hb)
  clear hb
  (try clear c0 f0)
  (try clear c1 f1)
  obtain ⟨c0, f0, l0⟩ := cells_of_block HK17.out.blk.2.2
  obtain ⟨c1, f1, l1⟩ := cells_of_block HK17.out.blk.1
  go_wp2_with fail
  refine (inside_any R4 R3 (.slice uo14 n uc14) (.slice uo12 n uc12) W17 (PairsAt.of_at HK17.out.is.2.1 HR4.out.2) (PairsAt.of_at HK17.out.is.2.2.1 HR3.out.2) HAS.out.2.2.2.1).mono ?_
  rintro e W18 ⟨rfl, hb⟩
  have HK18 := Lib.hid (HK17.out.next hb)
  clear hb
  (try clear c0 f0)
  (try clear c1 f1)
  obtain ⟨c0, f0, l0⟩ := cells_of_block HK18.out.blk.2.2
  obtain ⟨c1, f1, l1⟩ := cells_of_block HK18.out.blk.1
  go_wp2_with fail
  refine (Ledger_any (addG l (m0, m1, m2)) (.slice ot l.field.tallies.length ct) (.slice ov (l.notes.length + 1) cv) W18 (HA.out.1.below HK18.out.below (Nat.le_refl _)) (HK18.out.blk.2.1) (by have := HM.out.2.2.1; show l.field.tallies.length ≤ 1000; omega) (by have := HN5.out; omega)).mono ?_
  rintro e W19 ⟨a19, b19, rfl, ht19, hn19, hb⟩
  have HL19 := Lib.hid (And.intro ht19 hn19)
  clear ht19 hn19
  have HK19 := Lib.hid (HK18.out.next hb)
  clear hb
  (try clear c0 f0)
  (try clear c1 f1)
  obtain ⟨c0, f0, l0⟩ := cells_of_block HK19.out.blk.2.2
  obtain ⟨c1, f1, l1⟩ := cells_of_block HK19.out.blk.1
  go_wp2_with fail
  have HPS := Lib.hid (ProveSafe_any (addG l (m0, m1, m2)) a19 b19 (.slice uo16 P.length uc16) P W19 HL19.out.1 HL19.out.2 HK19.out.is.1 (by show -1000 ≤ l.field.weeders ∧ l.field.weeders ≤ 1000; have := HM.out.2.2.2.2; omega))
  rw [HAS.out.2.2.2.2.1] at HPS
  refine HPS.out.mono ?_
  rintro e W20 ⟨rfl, hb⟩
  have HK20 := Lib.hid (HK19.out.next hb)
  clear hb
  (try clear c0 f0)
  (try clear c1 f1)
  obtain ⟨c0, f0, l0⟩ := cells_of_block HK20.out.blk.2.2
  obtain ⟨c1, f1, l1⟩ := cells_of_block HK20.out.blk.1
  go_wp2_with fail
  refine (awake_any _).mono ?_
  rintro e W21 ⟨rfl, hb⟩
  have HB21 := Lib.hid (bgo HK20.out.below hb)
  clear hb
  go_wp2_with fail
  go_returns
  exact ⟨by simp, HB21.out⟩
end Go.Proofs.YtdjgikcnmokjkaaGreat
