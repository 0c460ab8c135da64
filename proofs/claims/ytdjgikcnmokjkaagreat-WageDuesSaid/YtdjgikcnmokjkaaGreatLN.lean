/-
  The walk of WageDues.
-/
import Derived.WalkKit
import Derived.WalkLawsBesides
import Derived.WalkSpells
import Derived.Outline
import Derived.Handy
import Derived.KernelRfl
import Derived.Lib.Hide
import Derived.BigRegion
import Derived.Deep.Cut
import Derived.Test.YtdjgikcnmokjkaaGreatZQ
import Derived.Test.YtdjgikcnmokjkaaGreatKF
namespace Go.Proofs.YtdjgikcnmokjkaaGreat
open Go.RowKit Go.RG Go.SL Go.Shelf Cou Go.TB
set_option maxHeartbeats 400000
set_option maxRecDepth 10000

set_option maxHeartbeats 8000000 in
theorem WageDues_any (l : LedgerD) (tv nv rvv pv : Value) (rows ps : List Int) (w : World) (ht : TalliesAt w tv l.field.tallies) (hn : TriplesAt w nv l.notes) (hr : IntsAt w rvv rows) (hp : IntsAt w pv ps) :
    Calls Tryz.prog 16 #[lv l tv nv, .agg #[rvv, pv]] w (PV (.bool true) w) := by
  obtain ⟨ro, rc, rfl⟩ := hr.open
  obtain ⟨po, pc, rfl⟩ := hp.open
  obtain ⟨on, cn, rfl⟩ := hn.open
  have hrl := hr.len
  have hpl := hp.len
  have HA := Lib.hid (And.intro ht hn)
  have HP2 := Lib.hid (And.intro hr hp)
  have HR := Lib.hid (fun (W : World) (hb : Below w.heap.size w W) => zThin_any l tv (.slice on l.notes.length cn) W (ht.below hb (Nat.le_refl _)) (hn.below hb (Nat.le_refl _)))
  clear ht hn hr hp
  obtain ⟨rd, hrd⟩ : ∃ rd, thinL l = rd := ⟨_, rfl⟩
  rw [hrd] at HR
  have HRD := Lib.hid hrd
  clear hrd
  go_enter Tryz.func16, Tryz.ntmps16
  go_wp2_with fail
  refine gcalls fun V0 hV0 => ?_
  have hB0 : Below w.heap.size w V0 := by rw [hV0]; exact (by repeat (first | exact Below.refl _ _ | assumption | refine bgo ?_ (by assumption) | refine bgoAlloc ?_ _ | refine bgoDrew ?_ | refine bgoSet ?_ (by simp; omega) _))
  have hk0 : V0.heap[w.heap.size]? = some (.cells (lcells l tv (.slice on l.notes.length cn)) 30 (0, 0)) := by rw [hV0]; exact (Below.heap_alloc _ _ _ (by simp)).trans (heap_new0 _ _)
  have hk1 : V0.heap[w.heap.size + 1]? = some (.cells #[.slice ro rows.length rc, .slice po ps.length pc] 70 (0, 0)) := by rw [hV0]; exact heap_new1 _ _ _
  have HK0 := Lib.hid ((Keeps.one hB0 hk0).more hk1 (last_block hk1))
  obtain ⟨c0, f0, l0⟩ := cells_of_block hk0
  obtain ⟨c1, f1, l1⟩ := cells_of_block hk1
  clear hV0 hB0 hk0 hk1
  refine (HR.out V0 HK0.out.below).mono ?_
  rintro e W1 ⟨rfl, hb⟩
  clear HR
  have HK1 := Lib.hid (HK0.out.next hb)
  clear hb
  (try clear c0 f0)
  (try clear c1 f1)
  obtain ⟨c0, f0, l0⟩ := cells_of_block HK1.out.blk.2
  obtain ⟨c1, f1, l1⟩ := cells_of_block HK1.out.blk.1
  cases rd
  · go_wp2_with fail
    refine (awake_any _).mono ?_
    rintro e W2 ⟨rfl, hb⟩
    have HB2 := Lib.hid (bgo HK1.out.below hb)
    clear hb
    go_wp2_with fail
    go_returns
    exact ⟨by simp, HB2.out⟩
  obtain ⟨ht7, hn7⟩ := thin_facts HRD.out
  have HM := Lib.hid (And.intro ht7 hn7)
  clear ht7
  by_cases h9 : 9 < rows.length
  · have h9I : (rows.length : Int) > 9 := by omega
    go_wp2_with fail
    refine (awake_any _).mono ?_
    rintro e W2 ⟨rfl, hb⟩
    have HB2 := Lib.hid (bgo HK1.out.below hb)
    clear hb
    go_wp2_with fail
    go_returns
    exact ⟨by simp, HB2.out⟩
  have h9I : ¬ (rows.length : Int) > 9 := by omega
  by_cases p9 : 9 < ps.length
  · have p9I : (ps.length : Int) > 9 := by omega
    go_wp2_with fail
    refine (awake_any _).mono ?_
    rintro e W2 ⟨rfl, hb⟩
    have HB2 := Lib.hid (bgo HK1.out.below hb)
    clear hb
    go_wp2_with fail
    go_returns
    exact ⟨by simp, HB2.out⟩
  have p9I : ¬ (ps.length : Int) > 9 := by omega
  obtain ⟨q, hq⟩ : ∃ q, faultW l = q := ⟨_, rfl⟩
  have HQ := Lib.hid hq
  clear hq
  by_cases hq0 : q = 0
  case neg =>
    have hqb : (q != 0) = true := by simpa using hq0
    have hqz : (q == 0) = false := by rw [beq_eq_false_iff_ne]; exact hq0
    have hqq : (q == q) = true := by simp
    have hqn : (q != q) = false := by simp
    have HQ0 := Lib.hid hq0
    have HDE := Lib.hid (show dueErr l rows = q from by unfold dueErr; rw [HQ.out, if_pos hq0])
    have HIS := Lib.hid (show proveLB l rows ps = false from by unfold proveLB; rw [HQ.out]; simp [hq0])
    clear hq0
    go_wp2_with fail
    refine wp_region_rg 11 [] none [(1, ⟨fun _ v => ∃ a b, v = lv l a b, fun _ v Wx => ∃ a b, v = lv l a b ∧ TalliesAt Wx a l.field.tallies ∧ TriplesAt Wx b l.notes⟩), (4, ⟨fun _ v => ∃ o c, v = .slice o (rows).length c, fun _ v Wx => IntsAt Wx v (rows)⟩), (5, Spec.val (.tuple #[.slice none 0 0, iv (q)]))] (by as_aux_lemma => kernel_rfl) (by as_aux_lemma => kernel_rfl) ?_
    simp only [List.take_succ_cons, List.take_zero, List.drop_succ_cons, List.drop_zero]
    repeat (first | (refine tree_det (by rfl) _ (by rfl) (fun W hW => by go_simp; (try simp (disch := omega) only [IntWalk.i64_in]); try rfl) ?_; simp only [Act.put, List.setIfInBounds_toArray, List.set_cons_succ, List.set_cons_zero]) | (refine tree_skip (by rfl) (by rfl) ?_; simp only [Act.put, List.setIfInBounds_toArray, List.set_cons_succ, List.set_cons_zero]))
    refine tree_some _ (by rfl) (by rfl) (by exact ⟨lv l (.slice none 0 0) (.slice none 0 0), _, _, rfl⟩) (fun Wx hE hF => ?_) (fun v Wx Wy ho hE => ?_) (fun v hv => ?_)
    · have hE' : Ext [] W1 Wx := hE
      refine does_enter 22 #[lv l tv (.slice on l.notes.length cn)] (by go_simp; try rfl) ?_
      refine (Ledger_any l tv (.slice on l.notes.length cn) Wx (HA.out.1.below (bgo HK1.out.below hE'.below) (Nat.le_refl _)) (HA.out.2.below (bgo HK1.out.below hE'.below) (Nat.le_refl _)) (by have := HM.out.1; omega) (by have := HM.out.2; omega)).mono ?_
      rintro e W' ⟨a0, b0, rfl, ht0, hn0, hb⟩
      exact ⟨_, rfl, ⟨_, _, rfl⟩, ⟨_, _, rfl, ht0, hn0⟩, Ext.of_below hb⟩
    · obtain ⟨a0, b0, rfl, g1, g2⟩ := ho
      have hb := Ext.below (show Ext [] Wx Wy from hE)
      exact ⟨_, _, rfl, g1.below hb (Nat.le_refl _), g2.below hb (Nat.le_refl _)⟩
    obtain ⟨a2, b2, rfl⟩ := hv
    simp only [Act.put, List.setIfInBounds_toArray, List.set_cons_succ, List.set_cons_zero]
    repeat (first | (refine tree_det (by rfl) _ (by rfl) (fun W hW => by go_simp; (try simp (disch := omega) only [IntWalk.i64_in]); try rfl) ?_; simp only [Act.put, List.setIfInBounds_toArray, List.set_cons_succ, List.set_cons_zero]) | (refine tree_skip (by rfl) (by rfl) ?_; simp only [Act.put, List.setIfInBounds_toArray, List.set_cons_succ, List.set_cons_zero]))
    refine tree_some _ (by rfl) (by rfl) (by exact ⟨.slice none rows.length 0, none, 0, rfl⟩) (fun Wx hE hF => ?_) (fun v Wx Wy ho hE => SlAt.below ho (Ext.below (show Ext [] Wx Wy from hE)) (Nat.le_refl _)) (fun v hv => ?_)
    · have hE' : Ext [] W1 Wx := hE
      refine does_enter 47 #[.slice ro rows.length rc] (by go_simp; try rfl) ?_
      refine (list_any rows (.slice ro rows.length rc) Wx (HP2.out.1.below (bgo HK1.out.below hE'.below) (Nat.le_refl _)) (by omega)).mono ?_
      rintro e W' ⟨u, rfl, hu, hb⟩
      exact ⟨_, rfl, owns_slice hu, SlAt.of_owns hu, Ext.of_below hb⟩
    obtain ⟨o4, c4, rfl⟩ := hv
    simp only [Act.put, List.setIfInBounds_toArray, List.set_cons_succ, List.set_cons_zero]
    repeat (first | (refine tree_det (by rfl) _ (by rfl) (fun W hW => by go_simp; (try simp (disch := omega) only [IntWalk.i64_in]); try rfl) ?_; simp only [Act.put, List.setIfInBounds_toArray, List.set_cons_succ, List.set_cons_zero]) | (refine tree_skip (by rfl) (by rfl) ?_; simp only [Act.put, List.setIfInBounds_toArray, List.set_cons_succ, List.set_cons_zero]))
    refine tree_val _ (by rfl) (by rfl) 67 #[lv l a2 b2, .slice o4 rows.length c4] (fun W hW => by go_simp; try rfl) (fun Wx hE hF => ?_) ?_
    · obtain ⟨a0, b0, he, g1, g2⟩ := hF _ (List.Mem.tail _ (List.Mem.head _)) (by kernel_rfl)
      cases he
      have g3 : IntsAt Wx (.slice o4 rows.length c4) rows := hF _ (List.Mem.head _) (by kernel_rfl)
      refine (Due_any l a2 b2 (.slice o4 rows.length c4) rows Wx g1 g2 g3).mono ?_
      rintro e W' ⟨hb, ⟨_, rfl⟩ | ⟨h0, _⟩⟩
      · rw [HDE.out]
        exact ⟨rfl, hb⟩
      · exact absurd (HDE.out.symm.trans h0) HQ0.out
    simp only [Act.put, List.setIfInBounds_toArray, List.set_cons_succ, List.set_cons_zero]
    repeat (first | (refine tree_det (by rfl) _ (by rfl) (fun W hW => by go_simp; (try simp (disch := omega) only [IntWalk.i64_in]); try rfl) ?_; simp only [Act.put, List.setIfInBounds_toArray, List.set_cons_succ, List.set_cons_zero]) | (refine tree_skip (by rfl) (by rfl) ?_; simp only [Act.put, List.setIfInBounds_toArray, List.set_cons_succ, List.set_cons_zero]))
    intro W3 hE hF
    have hb := Ext.below (show Ext [] W1 W3 from hE)
    clear hE hF
    have HK3 := Lib.hid (HK1.out.next hb)
    clear hb
    (try clear c0 f0)
    (try clear c1 f1)
    obtain ⟨c0, f0, l0⟩ := cells_of_block HK3.out.blk.2
    obtain ⟨c1, f1, l1⟩ := cells_of_block HK3.out.blk.1
    go_wp2_with fail
    refine (zfault_any l tv (.slice on l.notes.length cn) W3 (HA.out.1.below HK3.out.below (Nat.le_refl _)) (HA.out.2.below HK3.out.below (Nat.le_refl _))).mono ?_
    rintro e W4 ⟨rfl, hb⟩
    rw [HQ.out]
    have HK4 := Lib.hid (HK3.out.next hb)
    clear hb
    (try clear c0 f0)
    (try clear c1 f1)
    obtain ⟨c0, f0, l0⟩ := cells_of_block HK4.out.blk.2
    obtain ⟨c1, f1, l1⟩ := cells_of_block HK4.out.blk.1
    go_wp2_with fail
    refine wp_region_rg 20 [] none [(1, ⟨fun _ v => ∃ a b, v = lv l a b, fun _ v Wx => ∃ a b, v = lv l a b ∧ TalliesAt Wx a l.field.tallies ∧ TriplesAt Wx b l.notes⟩), (2, Spec.val (iv (q))), (7, ⟨fun _ v => ∃ a b, v = lv l a b, fun _ v Wx => ∃ a b, v = lv l a b ∧ TalliesAt Wx a l.field.tallies ∧ TriplesAt Wx b l.notes⟩), (9, ⟨fun _ v => ∃ a b, v = .agg #[a, b], fun _ v Wx => ∃ a b, v = .agg #[a, b] ∧ IntsAt Wx a (rows) ∧ IntsAt Wx b (ps)⟩), (10, Spec.val (.bool false))] (by as_aux_lemma => kernel_rfl) (by as_aux_lemma => kernel_rfl) ?_
    simp only [List.take_succ_cons, List.take_zero, List.drop_succ_cons, List.drop_zero]
    repeat (first | (refine tree_det (by rfl) _ (by rfl) (fun W hW => by go_simp; (try simp (disch := omega) only [IntWalk.i64_in]); try rfl) ?_; simp only [Act.put, List.setIfInBounds_toArray, List.set_cons_succ, List.set_cons_zero]) | (refine tree_skip (by rfl) (by rfl) ?_; simp only [Act.put, List.setIfInBounds_toArray, List.set_cons_succ, List.set_cons_zero]))
    refine tree_some _ (by rfl) (by rfl) (by exact ⟨lv l (.slice none 0 0) (.slice none 0 0), _, _, rfl⟩) (fun Wx hE hF => ?_) (fun v Wx Wy ho hE => ?_) (fun v hv => ?_)
    · have hE' : Ext [] W4 Wx := hE
      refine does_enter 22 #[lv l tv (.slice on l.notes.length cn)] (by go_simp; try rfl) ?_
      refine (Ledger_any l tv (.slice on l.notes.length cn) Wx (HA.out.1.below (bgo HK4.out.below hE'.below) (Nat.le_refl _)) (HA.out.2.below (bgo HK4.out.below hE'.below) (Nat.le_refl _)) (by have := HM.out.1; omega) (by have := HM.out.2; omega)).mono ?_
      rintro e W' ⟨a0, b0, rfl, ht0, hn0, hb⟩
      exact ⟨_, rfl, ⟨_, _, rfl⟩, ⟨_, _, rfl, ht0, hn0⟩, Ext.of_below hb⟩
    · obtain ⟨a0, b0, rfl, g1, g2⟩ := ho
      have hb := Ext.below (show Ext [] Wx Wy from hE)
      exact ⟨_, _, rfl, g1.below hb (Nat.le_refl _), g2.below hb (Nat.le_refl _)⟩
    obtain ⟨a5, b5, rfl⟩ := hv
    simp only [Act.put, List.setIfInBounds_toArray, List.set_cons_succ, List.set_cons_zero]
    repeat (first | (refine tree_det (by rfl) _ (by rfl) (fun W hW => by go_simp; (try simp (disch := omega) only [IntWalk.i64_in]); try rfl) ?_; simp only [Act.put, List.setIfInBounds_toArray, List.set_cons_succ, List.set_cons_zero]) | (refine tree_skip (by rfl) (by rfl) ?_; simp only [Act.put, List.setIfInBounds_toArray, List.set_cons_succ, List.set_cons_zero]))
    refine tree_val _ (by rfl) (by rfl) 68 #[lv l a5 b5] (fun W hW => by go_simp; try rfl) (fun Wx hE hF => ?_) ?_
    · obtain ⟨a0, b0, he, g1, g2⟩ := hF _ (List.Mem.head _) (by kernel_rfl)
      cases he
      have := CheckLedger_any l a5 b5 Wx g1 g2
      rw [HQ.out] at this
      exact this
    simp only [Act.put, List.setIfInBounds_toArray, List.set_cons_succ, List.set_cons_zero]
    repeat (first | (refine tree_det (by rfl) _ (by rfl) (fun W hW => by go_simp; (try simp (disch := omega) only [IntWalk.i64_in]); try rfl) ?_; simp only [Act.put, List.setIfInBounds_toArray, List.set_cons_succ, List.set_cons_zero]) | (refine tree_skip (by rfl) (by rfl) ?_; simp only [Act.put, List.setIfInBounds_toArray, List.set_cons_succ, List.set_cons_zero]))
    refine tree_some _ (by rfl) (by rfl) (by exact ⟨lv l (.slice none 0 0) (.slice none 0 0), _, _, rfl⟩) (fun Wx hE hF => ?_) (fun v Wx Wy ho hE => ?_) (fun v hv => ?_)
    · have hE' : Ext [] W4 Wx := hE
      refine does_enter 22 #[lv l tv (.slice on l.notes.length cn)] (by go_simp; try rfl) ?_
      refine (Ledger_any l tv (.slice on l.notes.length cn) Wx (HA.out.1.below (bgo HK4.out.below hE'.below) (Nat.le_refl _)) (HA.out.2.below (bgo HK4.out.below hE'.below) (Nat.le_refl _)) (by have := HM.out.1; omega) (by have := HM.out.2; omega)).mono ?_
      rintro e W' ⟨a0, b0, rfl, ht0, hn0, hb⟩
      exact ⟨_, rfl, ⟨_, _, rfl⟩, ⟨_, _, rfl, ht0, hn0⟩, Ext.of_below hb⟩
    · obtain ⟨a0, b0, rfl, g1, g2⟩ := ho
      have hb := Ext.below (show Ext [] Wx Wy from hE)
      exact ⟨_, _, rfl, g1.below hb (Nat.le_refl _), g2.below hb (Nat.le_refl _)⟩
    obtain ⟨a7, b7, rfl⟩ := hv
    simp only [Act.put, List.setIfInBounds_toArray, List.set_cons_succ, List.set_cons_zero]
    repeat (first | (refine tree_det (by rfl) _ (by rfl) (fun W hW => by go_simp; (try simp (disch := omega) only [IntWalk.i64_in]); try rfl) ?_; simp only [Act.put, List.setIfInBounds_toArray, List.set_cons_succ, List.set_cons_zero]) | (refine tree_skip (by rfl) (by rfl) ?_; simp only [Act.put, List.setIfInBounds_toArray, List.set_cons_succ, List.set_cons_zero]))
    refine tree_some _ (by rfl) (by rfl) (by exact ⟨.agg #[.slice none 0 0, .slice none 0 0], _, _, rfl⟩) (fun Wx hE hF => ?_) (fun v Wx Wy ho hE => ?_) (fun v hv => ?_)
    · have hE' : Ext [] W4 Wx := hE
      have hb := hE'.below
      refine does_enter 70 #[.agg #[.slice ro rows.length rc, .slice po ps.length pc]] (by go_simp; try rfl) ?_
      refine (zTruth_any rows ps (.slice ro rows.length rc) (.slice po ps.length pc) Wx (HP2.out.1.below (bgo HK4.out.below hb) (Nat.le_refl _)) (HP2.out.2.below (bgo HK4.out.below hb) (Nat.le_refl _)) (by omega) (by omega)).mono ?_
      rintro e W' ⟨u, v, rfl, hu, hv, hb⟩
      exact ⟨_, rfl, ⟨_, _, rfl⟩, ⟨_, _, rfl, hu, hv⟩, Ext.of_below hb⟩
    · obtain ⟨a0, b0, rfl, g1, g2⟩ := ho
      have hb := Ext.below (show Ext [] Wx Wy from hE)
      exact ⟨_, _, rfl, g1.below hb (Nat.le_refl _), g2.below hb (Nat.le_refl _)⟩
    obtain ⟨a9, b9, rfl⟩ := hv
    simp only [Act.put, List.setIfInBounds_toArray, List.set_cons_succ, List.set_cons_zero]
    repeat (first | (refine tree_det (by rfl) _ (by rfl) (fun W hW => by go_simp; (try simp (disch := omega) only [IntWalk.i64_in]); try rfl) ?_; simp only [Act.put, List.setIfInBounds_toArray, List.set_cons_succ, List.set_cons_zero]) | (refine tree_skip (by rfl) (by rfl) ?_; simp only [Act.put, List.setIfInBounds_toArray, List.set_cons_succ, List.set_cons_zero]))
    refine tree_val _ (by rfl) (by rfl) 69 #[lv l a7 b7, .agg #[a9, b9]] (fun W hW => by go_simp; try rfl) (fun Wx hE hF => ?_) ?_
    · obtain ⟨a0, b0, he, g1, g2⟩ := hF _ (List.Mem.tail _ (List.Mem.head _)) (by kernel_rfl)
      cases he
      obtain ⟨a0, b0, he, g3, g4⟩ := hF _ (List.Mem.head _) (by kernel_rfl)
      cases he
      have := ProveTruth_any l a7 b7 a9 b9 rows ps Wx g1 g2 g3 g4
      rw [HIS.out] at this
      exact this
    simp only [Act.put, List.setIfInBounds_toArray, List.set_cons_succ, List.set_cons_zero]
    repeat (first | (refine tree_det (by rfl) _ (by rfl) (fun W hW => by go_simp; (try simp (disch := omega) only [IntWalk.i64_in]); try rfl) ?_; simp only [Act.put, List.setIfInBounds_toArray, List.set_cons_succ, List.set_cons_zero]) | (refine tree_skip (by rfl) (by rfl) ?_; simp only [Act.put, List.setIfInBounds_toArray, List.set_cons_succ, List.set_cons_zero]))
    intro W5 hE hF
    have hb := Ext.below (show Ext [] W4 W5 from hE)
    clear hE hF
    have HK5 := Lib.hid (HK4.out.next hb)
    clear hb
    (try clear c0 f0)
    (try clear c1 f1)
    obtain ⟨c0, f0, l0⟩ := cells_of_block HK5.out.blk.2
    obtain ⟨c1, f1, l1⟩ := cells_of_block HK5.out.blk.1
    go_wp2_with fail
    refine (awake_any _).mono ?_
    rintro e W6 ⟨rfl, hb⟩
    have HB6 := Lib.hid (bgo HK5.out.below hb)
    clear hb
    go_wp2_with fail
    go_returns
    exact ⟨by simp, HB6.out⟩
  subst hq0
  obtain ⟨pt, hpt⟩ : ∃ pt, proveTruthB l.field rows = pt := ⟨_, rfl⟩
  have HPT := Lib.hid hpt
  clear hpt
  cases pt
  case false =>
    have HDE := Lib.hid (show dueErr l rows = 2 from by unfold dueErr; rw [HQ.out, HPT.out]; simp)
    have HIS := Lib.hid (show proveLB l rows ps = false from by unfold proveLB; rw [HPT.out]; simp)
    have HQ0 := Lib.hid (show (2 : Int) ≠ 0 from by decide)
    go_wp2_with fail
    refine wp_region_rg 11 [] none [(1, ⟨fun _ v => ∃ a b, v = lv l a b, fun _ v Wx => ∃ a b, v = lv l a b ∧ TalliesAt Wx a l.field.tallies ∧ TriplesAt Wx b l.notes⟩), (4, ⟨fun _ v => ∃ o c, v = .slice o (rows).length c, fun _ v Wx => IntsAt Wx v (rows)⟩), (5, Spec.val (.tuple #[.slice none 0 0, iv (2)]))] (by as_aux_lemma => kernel_rfl) (by as_aux_lemma => kernel_rfl) ?_
    simp only [List.take_succ_cons, List.take_zero, List.drop_succ_cons, List.drop_zero]
    repeat (first | (refine tree_det (by rfl) _ (by rfl) (fun W hW => by go_simp; (try simp (disch := omega) only [IntWalk.i64_in]); try rfl) ?_; simp only [Act.put, List.setIfInBounds_toArray, List.set_cons_succ, List.set_cons_zero]) | (refine tree_skip (by rfl) (by rfl) ?_; simp only [Act.put, List.setIfInBounds_toArray, List.set_cons_succ, List.set_cons_zero]))
    refine tree_some _ (by rfl) (by rfl) (by exact ⟨lv l (.slice none 0 0) (.slice none 0 0), _, _, rfl⟩) (fun Wx hE hF => ?_) (fun v Wx Wy ho hE => ?_) (fun v hv => ?_)
    · have hE' : Ext [] W1 Wx := hE
      refine does_enter 22 #[lv l tv (.slice on l.notes.length cn)] (by go_simp; try rfl) ?_
      refine (Ledger_any l tv (.slice on l.notes.length cn) Wx (HA.out.1.below (bgo HK1.out.below hE'.below) (Nat.le_refl _)) (HA.out.2.below (bgo HK1.out.below hE'.below) (Nat.le_refl _)) (by have := HM.out.1; omega) (by have := HM.out.2; omega)).mono ?_
      rintro e W' ⟨a0, b0, rfl, ht0, hn0, hb⟩
      exact ⟨_, rfl, ⟨_, _, rfl⟩, ⟨_, _, rfl, ht0, hn0⟩, Ext.of_below hb⟩
    · obtain ⟨a0, b0, rfl, g1, g2⟩ := ho
      have hb := Ext.below (show Ext [] Wx Wy from hE)
      exact ⟨_, _, rfl, g1.below hb (Nat.le_refl _), g2.below hb (Nat.le_refl _)⟩
    obtain ⟨a2, b2, rfl⟩ := hv
    simp only [Act.put, List.setIfInBounds_toArray, List.set_cons_succ, List.set_cons_zero]
    repeat (first | (refine tree_det (by rfl) _ (by rfl) (fun W hW => by go_simp; (try simp (disch := omega) only [IntWalk.i64_in]); try rfl) ?_; simp only [Act.put, List.setIfInBounds_toArray, List.set_cons_succ, List.set_cons_zero]) | (refine tree_skip (by rfl) (by rfl) ?_; simp only [Act.put, List.setIfInBounds_toArray, List.set_cons_succ, List.set_cons_zero]))
    refine tree_some _ (by rfl) (by rfl) (by exact ⟨.slice none rows.length 0, none, 0, rfl⟩) (fun Wx hE hF => ?_) (fun v Wx Wy ho hE => SlAt.below ho (Ext.below (show Ext [] Wx Wy from hE)) (Nat.le_refl _)) (fun v hv => ?_)
    · have hE' : Ext [] W1 Wx := hE
      refine does_enter 47 #[.slice ro rows.length rc] (by go_simp; try rfl) ?_
      refine (list_any rows (.slice ro rows.length rc) Wx (HP2.out.1.below (bgo HK1.out.below hE'.below) (Nat.le_refl _)) (by omega)).mono ?_
      rintro e W' ⟨u, rfl, hu, hb⟩
      exact ⟨_, rfl, owns_slice hu, SlAt.of_owns hu, Ext.of_below hb⟩
    obtain ⟨o4, c4, rfl⟩ := hv
    simp only [Act.put, List.setIfInBounds_toArray, List.set_cons_succ, List.set_cons_zero]
    repeat (first | (refine tree_det (by rfl) _ (by rfl) (fun W hW => by go_simp; (try simp (disch := omega) only [IntWalk.i64_in]); try rfl) ?_; simp only [Act.put, List.setIfInBounds_toArray, List.set_cons_succ, List.set_cons_zero]) | (refine tree_skip (by rfl) (by rfl) ?_; simp only [Act.put, List.setIfInBounds_toArray, List.set_cons_succ, List.set_cons_zero]))
    refine tree_val _ (by rfl) (by rfl) 67 #[lv l a2 b2, .slice o4 rows.length c4] (fun W hW => by go_simp; try rfl) (fun Wx hE hF => ?_) ?_
    · obtain ⟨a0, b0, he, g1, g2⟩ := hF _ (List.Mem.tail _ (List.Mem.head _)) (by kernel_rfl)
      cases he
      have g3 : IntsAt Wx (.slice o4 rows.length c4) rows := hF _ (List.Mem.head _) (by kernel_rfl)
      refine (Due_any l a2 b2 (.slice o4 rows.length c4) rows Wx g1 g2 g3).mono ?_
      rintro e W' ⟨hb, ⟨_, rfl⟩ | ⟨h0, _⟩⟩
      · rw [HDE.out]
        exact ⟨rfl, hb⟩
      · exact absurd (HDE.out.symm.trans h0) HQ0.out
    simp only [Act.put, List.setIfInBounds_toArray, List.set_cons_succ, List.set_cons_zero]
    repeat (first | (refine tree_det (by rfl) _ (by rfl) (fun W hW => by go_simp; (try simp (disch := omega) only [IntWalk.i64_in]); try rfl) ?_; simp only [Act.put, List.setIfInBounds_toArray, List.set_cons_succ, List.set_cons_zero]) | (refine tree_skip (by rfl) (by rfl) ?_; simp only [Act.put, List.setIfInBounds_toArray, List.set_cons_succ, List.set_cons_zero]))
    intro W3 hE hF
    have hb := Ext.below (show Ext [] W1 W3 from hE)
    clear hE hF
    have HK3 := Lib.hid (HK1.out.next hb)
    clear hb
    (try clear c0 f0)
    (try clear c1 f1)
    obtain ⟨c0, f0, l0⟩ := cells_of_block HK3.out.blk.2
    obtain ⟨c1, f1, l1⟩ := cells_of_block HK3.out.blk.1
    go_wp2_with fail
    refine (zfault_any l tv (.slice on l.notes.length cn) W3 (HA.out.1.below HK3.out.below (Nat.le_refl _)) (HA.out.2.below HK3.out.below (Nat.le_refl _))).mono ?_
    rintro e W4 ⟨rfl, hb⟩
    rw [HQ.out]
    have HK4 := Lib.hid (HK3.out.next hb)
    clear hb
    (try clear c0 f0)
    (try clear c1 f1)
    obtain ⟨c0, f0, l0⟩ := cells_of_block HK4.out.blk.2
    obtain ⟨c1, f1, l1⟩ := cells_of_block HK4.out.blk.1
    go_wp2_with fail
    refine wp_region_rg 20 [] none [(1, ⟨fun _ v => ∃ a b, v = lv l a b, fun _ v Wx => ∃ a b, v = lv l a b ∧ TalliesAt Wx a l.field.tallies ∧ TriplesAt Wx b l.notes⟩), (2, Spec.val (iv (0))), (7, ⟨fun _ v => ∃ a b, v = lv l a b, fun _ v Wx => ∃ a b, v = lv l a b ∧ TalliesAt Wx a l.field.tallies ∧ TriplesAt Wx b l.notes⟩), (9, ⟨fun _ v => ∃ a b, v = .agg #[a, b], fun _ v Wx => ∃ a b, v = .agg #[a, b] ∧ IntsAt Wx a (rows) ∧ IntsAt Wx b (ps)⟩), (10, Spec.val (.bool false)), (16, Spec.val (.bool false))] (by as_aux_lemma => kernel_rfl) (by as_aux_lemma => kernel_rfl) ?_
    simp only [List.take_succ_cons, List.take_zero, List.drop_succ_cons, List.drop_zero]
    repeat (first | (refine tree_det (by rfl) _ (by rfl) (fun W hW => by go_simp; (try simp (disch := omega) only [IntWalk.i64_in]); try rfl) ?_; simp only [Act.put, List.setIfInBounds_toArray, List.set_cons_succ, List.set_cons_zero]) | (refine tree_skip (by rfl) (by rfl) ?_; simp only [Act.put, List.setIfInBounds_toArray, List.set_cons_succ, List.set_cons_zero]))
    refine tree_some _ (by rfl) (by rfl) (by exact ⟨lv l (.slice none 0 0) (.slice none 0 0), _, _, rfl⟩) (fun Wx hE hF => ?_) (fun v Wx Wy ho hE => ?_) (fun v hv => ?_)
    · have hE' : Ext [] W4 Wx := hE
      refine does_enter 22 #[lv l tv (.slice on l.notes.length cn)] (by go_simp; try rfl) ?_
      refine (Ledger_any l tv (.slice on l.notes.length cn) Wx (HA.out.1.below (bgo HK4.out.below hE'.below) (Nat.le_refl _)) (HA.out.2.below (bgo HK4.out.below hE'.below) (Nat.le_refl _)) (by have := HM.out.1; omega) (by have := HM.out.2; omega)).mono ?_
      rintro e W' ⟨a0, b0, rfl, ht0, hn0, hb⟩
      exact ⟨_, rfl, ⟨_, _, rfl⟩, ⟨_, _, rfl, ht0, hn0⟩, Ext.of_below hb⟩
    · obtain ⟨a0, b0, rfl, g1, g2⟩ := ho
      have hb := Ext.below (show Ext [] Wx Wy from hE)
      exact ⟨_, _, rfl, g1.below hb (Nat.le_refl _), g2.below hb (Nat.le_refl _)⟩
    obtain ⟨a5, b5, rfl⟩ := hv
    simp only [Act.put, List.setIfInBounds_toArray, List.set_cons_succ, List.set_cons_zero]
    repeat (first | (refine tree_det (by rfl) _ (by rfl) (fun W hW => by go_simp; (try simp (disch := omega) only [IntWalk.i64_in]); try rfl) ?_; simp only [Act.put, List.setIfInBounds_toArray, List.set_cons_succ, List.set_cons_zero]) | (refine tree_skip (by rfl) (by rfl) ?_; simp only [Act.put, List.setIfInBounds_toArray, List.set_cons_succ, List.set_cons_zero]))
    refine tree_val _ (by rfl) (by rfl) 68 #[lv l a5 b5] (fun W hW => by go_simp; try rfl) (fun Wx hE hF => ?_) ?_
    · obtain ⟨a0, b0, he, g1, g2⟩ := hF _ (List.Mem.head _) (by kernel_rfl)
      cases he
      have := CheckLedger_any l a5 b5 Wx g1 g2
      rw [HQ.out] at this
      exact this
    simp only [Act.put, List.setIfInBounds_toArray, List.set_cons_succ, List.set_cons_zero]
    repeat (first | (refine tree_det (by rfl) _ (by rfl) (fun W hW => by go_simp; (try simp (disch := omega) only [IntWalk.i64_in]); try rfl) ?_; simp only [Act.put, List.setIfInBounds_toArray, List.set_cons_succ, List.set_cons_zero]) | (refine tree_skip (by rfl) (by rfl) ?_; simp only [Act.put, List.setIfInBounds_toArray, List.set_cons_succ, List.set_cons_zero]))
    refine tree_some _ (by rfl) (by rfl) (by exact ⟨lv l (.slice none 0 0) (.slice none 0 0), _, _, rfl⟩) (fun Wx hE hF => ?_) (fun v Wx Wy ho hE => ?_) (fun v hv => ?_)
    · have hE' : Ext [] W4 Wx := hE
      refine does_enter 22 #[lv l tv (.slice on l.notes.length cn)] (by go_simp; try rfl) ?_
      refine (Ledger_any l tv (.slice on l.notes.length cn) Wx (HA.out.1.below (bgo HK4.out.below hE'.below) (Nat.le_refl _)) (HA.out.2.below (bgo HK4.out.below hE'.below) (Nat.le_refl _)) (by have := HM.out.1; omega) (by have := HM.out.2; omega)).mono ?_
      rintro e W' ⟨a0, b0, rfl, ht0, hn0, hb⟩
      exact ⟨_, rfl, ⟨_, _, rfl⟩, ⟨_, _, rfl, ht0, hn0⟩, Ext.of_below hb⟩
    · obtain ⟨a0, b0, rfl, g1, g2⟩ := ho
      have hb := Ext.below (show Ext [] Wx Wy from hE)
      exact ⟨_, _, rfl, g1.below hb (Nat.le_refl _), g2.below hb (Nat.le_refl _)⟩
    obtain ⟨a7, b7, rfl⟩ := hv
    simp only [Act.put, List.setIfInBounds_toArray, List.set_cons_succ, List.set_cons_zero]
    repeat (first | (refine tree_det (by rfl) _ (by rfl) (fun W hW => by go_simp; (try simp (disch := omega) only [IntWalk.i64_in]); try rfl) ?_; simp only [Act.put, List.setIfInBounds_toArray, List.set_cons_succ, List.set_cons_zero]) | (refine tree_skip (by rfl) (by rfl) ?_; simp only [Act.put, List.setIfInBounds_toArray, List.set_cons_succ, List.set_cons_zero]))
    refine tree_some _ (by rfl) (by rfl) (by exact ⟨.agg #[.slice none 0 0, .slice none 0 0], _, _, rfl⟩) (fun Wx hE hF => ?_) (fun v Wx Wy ho hE => ?_) (fun v hv => ?_)
    · have hE' : Ext [] W4 Wx := hE
      have hb := hE'.below
      refine does_enter 70 #[.agg #[.slice ro rows.length rc, .slice po ps.length pc]] (by go_simp; try rfl) ?_
      refine (zTruth_any rows ps (.slice ro rows.length rc) (.slice po ps.length pc) Wx (HP2.out.1.below (bgo HK4.out.below hb) (Nat.le_refl _)) (HP2.out.2.below (bgo HK4.out.below hb) (Nat.le_refl _)) (by omega) (by omega)).mono ?_
      rintro e W' ⟨u, v, rfl, hu, hv, hb⟩
      exact ⟨_, rfl, ⟨_, _, rfl⟩, ⟨_, _, rfl, hu, hv⟩, Ext.of_below hb⟩
    · obtain ⟨a0, b0, rfl, g1, g2⟩ := ho
      have hb := Ext.below (show Ext [] Wx Wy from hE)
      exact ⟨_, _, rfl, g1.below hb (Nat.le_refl _), g2.below hb (Nat.le_refl _)⟩
    obtain ⟨a9, b9, rfl⟩ := hv
    simp only [Act.put, List.setIfInBounds_toArray, List.set_cons_succ, List.set_cons_zero]
    repeat (first | (refine tree_det (by rfl) _ (by rfl) (fun W hW => by go_simp; (try simp (disch := omega) only [IntWalk.i64_in]); try rfl) ?_; simp only [Act.put, List.setIfInBounds_toArray, List.set_cons_succ, List.set_cons_zero]) | (refine tree_skip (by rfl) (by rfl) ?_; simp only [Act.put, List.setIfInBounds_toArray, List.set_cons_succ, List.set_cons_zero]))
    refine tree_val _ (by rfl) (by rfl) 69 #[lv l a7 b7, .agg #[a9, b9]] (fun W hW => by go_simp; try rfl) (fun Wx hE hF => ?_) ?_
    · obtain ⟨a0, b0, he, g1, g2⟩ := hF _ (List.Mem.tail _ (List.Mem.head _)) (by kernel_rfl)
      cases he
      obtain ⟨a0, b0, he, g3, g4⟩ := hF _ (List.Mem.head _) (by kernel_rfl)
      cases he
      have := ProveTruth_any l a7 b7 a9 b9 rows ps Wx g1 g2 g3 g4
      rw [HIS.out] at this
      exact this
    simp only [Act.put, List.setIfInBounds_toArray, List.set_cons_succ, List.set_cons_zero]
    repeat (first | (refine tree_det (by rfl) _ (by rfl) (fun W hW => by go_simp; (try simp (disch := omega) only [IntWalk.i64_in]); try rfl) ?_; simp only [Act.put, List.setIfInBounds_toArray, List.set_cons_succ, List.set_cons_zero]) | (refine tree_skip (by rfl) (by rfl) ?_; simp only [Act.put, List.setIfInBounds_toArray, List.set_cons_succ, List.set_cons_zero]))
    refine tree_val _ (by rfl) (by rfl) 71 #[lv l tv (.slice on l.notes.length cn), .agg #[.slice ro rows.length rc, .slice po ps.length pc]] (fun W hW => by go_simp; try rfl) (fun Wx hE hF => ?_) ?_
    · have hb := Ext.below (show Ext [] W4 Wx from hE)
      have := zIsTruth_any HQ.out tv (.slice on l.notes.length cn) (.slice ro rows.length rc) (.slice po ps.length pc) rows ps (by omega) Wx (HA.out.1.below (bgo HK4.out.below hb) (Nat.le_refl _)) (HA.out.2.below (bgo HK4.out.below hb) (Nat.le_refl _)) (HP2.out.1.below (bgo HK4.out.below hb) (Nat.le_refl _)) (HP2.out.2.below (bgo HK4.out.below hb) (Nat.le_refl _))
      rw [HIS.out] at this
      exact this
    simp only [Act.put, List.setIfInBounds_toArray, List.set_cons_succ, List.set_cons_zero]
    repeat (first | (refine tree_det (by rfl) _ (by rfl) (fun W hW => by go_simp; (try simp (disch := omega) only [IntWalk.i64_in]); try rfl) ?_; simp only [Act.put, List.setIfInBounds_toArray, List.set_cons_succ, List.set_cons_zero]) | (refine tree_skip (by rfl) (by rfl) ?_; simp only [Act.put, List.setIfInBounds_toArray, List.set_cons_succ, List.set_cons_zero]))
    intro W5 hE hF
    have hb := Ext.below (show Ext [] W4 W5 from hE)
    clear hE hF
    have HK5 := Lib.hid (HK4.out.next hb)
    clear hb
    (try clear c0 f0)
    (try clear c1 f1)
    obtain ⟨c0, f0, l0⟩ := cells_of_block HK5.out.blk.2
    obtain ⟨c1, f1, l1⟩ := cells_of_block HK5.out.blk.1
    go_wp2_with fail
    have HRT := Lib.hid (rIsTruth_gen l.field (faultW_sound HQ.out).1.field tv (.slice ro rows.length rc) rows (by omega) W5 (HA.out.1.below HK5.out.below (Nat.le_refl _)) (HP2.out.1.below HK5.out.below (Nat.le_refl _)))
    rw [HPT.out] at HRT
    refine HRT.out.mono ?_
    rintro e W6 ⟨rfl, hb⟩
    clear HRT
    have HK6 := Lib.hid (HK5.out.next hb)
    clear hb
    (try clear c0 f0)
    (try clear c1 f1)
    obtain ⟨c0, f0, l0⟩ := cells_of_block HK6.out.blk.2
    obtain ⟨c1, f1, l1⟩ := cells_of_block HK6.out.blk.1
    go_wp2_with fail
    refine (awake_any _).mono ?_
    rintro e W7 ⟨rfl, hb⟩
    have HB7 := Lib.hid (bgo HK6.out.below hb)
    clear hb
    go_wp2_with fail
    go_returns
    exact ⟨by simp, HB7.out⟩
  have HDE := Lib.hid (show dueErr l rows = 0 from by unfold dueErr; rw [HQ.out, HPT.out]; simp)
  obtain ⟨hS, hpo⟩ := faultW_sound HQ.out
  have hF := soundF_of hS.field
  obtain ⟨_, hlen, _, _⟩ := proveTruth_bd HPT.out
  have hdz := duesZ_eq (l := l) hF (t := rows) (by have := hF.rows0; omega)
  have HDU := Lib.hid (fun (W : World) (h : IntsAt W (.slice ro rows.length rc) rows) => zDues_any l tv (.slice on l.notes.length cn) (.slice ro rows.length rc) rows W h (by omega) (by have := hF.weed0; omega) hF.weed1 (by have := hS.rate; omega) hS.rate.2)
  have hdl := dueV_length hS rows
  obtain ⟨n, hwt⟩ : ∃ n : Nat, l.field.weeders.toNat = n := ⟨_, rfl⟩
  rw [hdz, hwt] at HDU
  rw [hwt] at hdl
  obtain ⟨D, hD⟩ : ∃ D, dueV l rows = D := ⟨_, rfl⟩
  rw [hD] at HDU hdl
  have HDD := Lib.hid (And.intro hD hdl)
  obtain ⟨is, his⟩ : ∃ is, proveLB l rows ps = is := ⟨_, rfl⟩
  have HIS := Lib.hid his
  have hisis : (is != is) = false := by simp
  clear hS hpo hF hlen hdz hdl hwt hD his
  go_wp2_with fail
  refine wp_region_rg 11 [] none [(1, ⟨fun _ v => ∃ a b, v = lv l a b, fun _ v Wx => ∃ a b, v = lv l a b ∧ TalliesAt Wx a l.field.tallies ∧ TriplesAt Wx b l.notes⟩), (4, ⟨fun _ v => ∃ o c, v = .slice o (rows).length c, fun _ v Wx => IntsAt Wx v (rows)⟩), (5, ⟨fun _ v => ∃ o c, v = .tuple #[.slice o n c, iv 0], fun _ v Wx => ∃ o c, v = .tuple #[.slice o n c, iv 0] ∧ SlAt 1 Wx (.slice o n c) n (intCells D)⟩)] (by as_aux_lemma => kernel_rfl) (by as_aux_lemma => kernel_rfl) ?_
  simp only [List.take_succ_cons, List.take_zero, List.drop_succ_cons, List.drop_zero]
  repeat (first | (refine tree_det (by rfl) _ (by rfl) (fun W hW => by go_simp; (try simp (disch := omega) only [IntWalk.i64_in]); try rfl) ?_; simp only [Act.put, List.setIfInBounds_toArray, List.set_cons_succ, List.set_cons_zero]) | (refine tree_skip (by rfl) (by rfl) ?_; simp only [Act.put, List.setIfInBounds_toArray, List.set_cons_succ, List.set_cons_zero]))
  refine tree_some _ (by rfl) (by rfl) (by exact ⟨lv l (.slice none 0 0) (.slice none 0 0), _, _, rfl⟩) (fun Wx hE hF => ?_) (fun v Wx Wy ho hE => ?_) (fun v hv => ?_)
  · have hE' : Ext [] W1 Wx := hE
    refine does_enter 22 #[lv l tv (.slice on l.notes.length cn)] (by go_simp; try rfl) ?_
    refine (Ledger_any l tv (.slice on l.notes.length cn) Wx (HA.out.1.below (bgo HK1.out.below hE'.below) (Nat.le_refl _)) (HA.out.2.below (bgo HK1.out.below hE'.below) (Nat.le_refl _)) (by have := HM.out.1; omega) (by have := HM.out.2; omega)).mono ?_
    rintro e W' ⟨a0, b0, rfl, ht0, hn0, hb⟩
    exact ⟨_, rfl, ⟨_, _, rfl⟩, ⟨_, _, rfl, ht0, hn0⟩, Ext.of_below hb⟩
  · obtain ⟨a0, b0, rfl, g1, g2⟩ := ho
    have hb := Ext.below (show Ext [] Wx Wy from hE)
    exact ⟨_, _, rfl, g1.below hb (Nat.le_refl _), g2.below hb (Nat.le_refl _)⟩
  obtain ⟨a2, b2, rfl⟩ := hv
  simp only [Act.put, List.setIfInBounds_toArray, List.set_cons_succ, List.set_cons_zero]
  repeat (first | (refine tree_det (by rfl) _ (by rfl) (fun W hW => by go_simp; (try simp (disch := omega) only [IntWalk.i64_in]); try rfl) ?_; simp only [Act.put, List.setIfInBounds_toArray, List.set_cons_succ, List.set_cons_zero]) | (refine tree_skip (by rfl) (by rfl) ?_; simp only [Act.put, List.setIfInBounds_toArray, List.set_cons_succ, List.set_cons_zero]))
  refine tree_some _ (by rfl) (by rfl) (by exact ⟨.slice none rows.length 0, none, 0, rfl⟩) (fun Wx hE hF => ?_) (fun v Wx Wy ho hE => SlAt.below ho (Ext.below (show Ext [] Wx Wy from hE)) (Nat.le_refl _)) (fun v hv => ?_)
  · have hE' : Ext [] W1 Wx := hE
    refine does_enter 47 #[.slice ro rows.length rc] (by go_simp; try rfl) ?_
    refine (list_any rows (.slice ro rows.length rc) Wx (HP2.out.1.below (bgo HK1.out.below hE'.below) (Nat.le_refl _)) (by omega)).mono ?_
    rintro e W' ⟨u, rfl, hu, hb⟩
    exact ⟨_, rfl, owns_slice hu, SlAt.of_owns hu, Ext.of_below hb⟩
  obtain ⟨o4, c4, rfl⟩ := hv
  simp only [Act.put, List.setIfInBounds_toArray, List.set_cons_succ, List.set_cons_zero]
  repeat (first | (refine tree_det (by rfl) _ (by rfl) (fun W hW => by go_simp; (try simp (disch := omega) only [IntWalk.i64_in]); try rfl) ?_; simp only [Act.put, List.setIfInBounds_toArray, List.set_cons_succ, List.set_cons_zero]) | (refine tree_skip (by rfl) (by rfl) ?_; simp only [Act.put, List.setIfInBounds_toArray, List.set_cons_succ, List.set_cons_zero]))
  refine tree_some _ (by rfl) (by rfl) (by exact ⟨.tuple #[.slice none n 0, iv 0], none, 0, rfl⟩) (fun Wx hE hF => ?_) (fun v Wx Wy ho hE => ?_) (fun v hv => ?_)
  · obtain ⟨a0, b0, he, g1, g2⟩ := hF _ (List.Mem.tail _ (List.Mem.head _)) (by kernel_rfl)
    cases he
    have g3 : IntsAt Wx (.slice o4 rows.length c4) rows := hF _ (List.Mem.head _) (by kernel_rfl)
    refine does_enter 67 #[lv l a2 b2, .slice o4 rows.length c4] (by go_simp; try rfl) ?_
    refine (Due_any l a2 b2 (.slice o4 rows.length c4) rows Wx g1 g2 g3).mono ?_
    rintro e W' ⟨hb, ⟨hne, _⟩ | ⟨_, u, rfl, hu⟩⟩
    · exact absurd HDE.out hne
    · rw [HDD.out.1] at hu
      obtain ⟨uo, uc, rfl⟩ := hu.open
      have hu := IntsAt.at_ hu HDD.out.2
      rw [HDD.out.2] at hu ⊢
      exact ⟨_, rfl, ⟨_, _, rfl⟩, ⟨_, _, rfl, hu⟩, Ext.of_below hb⟩
  · obtain ⟨uo, uc, rfl, hu⟩ := ho
    exact ⟨_, _, rfl, SlAt.below hu (Ext.below (show Ext [] Wx Wy from hE)) (Nat.le_refl _)⟩
  obtain ⟨uo, uc, rfl⟩ := hv
  simp only [Act.put, List.setIfInBounds_toArray, List.set_cons_succ, List.set_cons_zero]
  repeat (first | (refine tree_det (by rfl) _ (by rfl) (fun W hW => by go_simp; (try simp (disch := omega) only [IntWalk.i64_in]); try rfl) ?_; simp only [Act.put, List.setIfInBounds_toArray, List.set_cons_succ, List.set_cons_zero]) | (refine tree_skip (by rfl) (by rfl) ?_; simp only [Act.put, List.setIfInBounds_toArray, List.set_cons_succ, List.set_cons_zero]))
  intro W3 hE hF
  obtain ⟨_, _, he, hu⟩ := hF _ (List.Mem.head _)
  cases he
  have HU := Lib.hid hu
  have hb := Ext.below (show Ext [] W1 W3 from hE)
  clear hE hF hu
  have HK3 := Lib.hid (HK1.out.next hb)
  clear hb
  (try clear c0 f0)
  (try clear c1 f1)
  obtain ⟨c0, f0, l0⟩ := cells_of_block HK3.out.blk.2
  obtain ⟨c1, f1, l1⟩ := cells_of_block HK3.out.blk.1
  have HK3 := Lib.hid (HK3.out.add (T := fun W => SlAt 1 W (.slice uo n uc) n (intCells D)) HU.out (last_at HU.out))
  go_wp2_with fail
  refine (zfault_any l tv (.slice on l.notes.length cn) W3 (HA.out.1.below HK3.out.below (Nat.le_refl _)) (HA.out.2.below HK3.out.below (Nat.le_refl _))).mono ?_
  rintro e W4 ⟨rfl, hb⟩
  rw [HQ.out]
  have HK4 := Lib.hid (HK3.out.next hb)
  clear hb
  (try clear c0 f0)
  (try clear c1 f1)
  obtain ⟨c0, f0, l0⟩ := cells_of_block HK4.out.blk.2
  obtain ⟨c1, f1, l1⟩ := cells_of_block HK4.out.blk.1
  go_wp2_with fail
  refine wp_region_rg 20 [] none [(1, ⟨fun _ v => ∃ a b, v = lv l a b, fun _ v Wx => ∃ a b, v = lv l a b ∧ TalliesAt Wx a l.field.tallies ∧ TriplesAt Wx b l.notes⟩), (2, Spec.val (iv (0))), (7, ⟨fun _ v => ∃ a b, v = lv l a b, fun _ v Wx => ∃ a b, v = lv l a b ∧ TalliesAt Wx a l.field.tallies ∧ TriplesAt Wx b l.notes⟩), (9, ⟨fun _ v => ∃ a b, v = .agg #[a, b], fun _ v Wx => ∃ a b, v = .agg #[a, b] ∧ IntsAt Wx a (rows) ∧ IntsAt Wx b (ps)⟩), (10, Spec.val (.bool is)), (16, Spec.val (.bool is))] (by as_aux_lemma => kernel_rfl) (by as_aux_lemma => kernel_rfl) ?_
  simp only [List.take_succ_cons, List.take_zero, List.drop_succ_cons, List.drop_zero]
  repeat (first | (refine tree_det (by rfl) _ (by rfl) (fun W hW => by go_simp; (try simp (disch := omega) only [IntWalk.i64_in]); try rfl) ?_; simp only [Act.put, List.setIfInBounds_toArray, List.set_cons_succ, List.set_cons_zero]) | (refine tree_skip (by rfl) (by rfl) ?_; simp only [Act.put, List.setIfInBounds_toArray, List.set_cons_succ, List.set_cons_zero]))
  refine tree_some _ (by rfl) (by rfl) (by exact ⟨lv l (.slice none 0 0) (.slice none 0 0), _, _, rfl⟩) (fun Wx hE hF => ?_) (fun v Wx Wy ho hE => ?_) (fun v hv => ?_)
  · have hE' : Ext [] W4 Wx := hE
    refine does_enter 22 #[lv l tv (.slice on l.notes.length cn)] (by go_simp; try rfl) ?_
    refine (Ledger_any l tv (.slice on l.notes.length cn) Wx (HA.out.1.below (bgo HK4.out.below hE'.below) (Nat.le_refl _)) (HA.out.2.below (bgo HK4.out.below hE'.below) (Nat.le_refl _)) (by have := HM.out.1; omega) (by have := HM.out.2; omega)).mono ?_
    rintro e W' ⟨a0, b0, rfl, ht0, hn0, hb⟩
    exact ⟨_, rfl, ⟨_, _, rfl⟩, ⟨_, _, rfl, ht0, hn0⟩, Ext.of_below hb⟩
  · obtain ⟨a0, b0, rfl, g1, g2⟩ := ho
    have hb := Ext.below (show Ext [] Wx Wy from hE)
    exact ⟨_, _, rfl, g1.below hb (Nat.le_refl _), g2.below hb (Nat.le_refl _)⟩
  obtain ⟨a5, b5, rfl⟩ := hv
  simp only [Act.put, List.setIfInBounds_toArray, List.set_cons_succ, List.set_cons_zero]
  repeat (first | (refine tree_det (by rfl) _ (by rfl) (fun W hW => by go_simp; (try simp (disch := omega) only [IntWalk.i64_in]); try rfl) ?_; simp only [Act.put, List.setIfInBounds_toArray, List.set_cons_succ, List.set_cons_zero]) | (refine tree_skip (by rfl) (by rfl) ?_; simp only [Act.put, List.setIfInBounds_toArray, List.set_cons_succ, List.set_cons_zero]))
  refine tree_val _ (by rfl) (by rfl) 68 #[lv l a5 b5] (fun W hW => by go_simp; try rfl) (fun Wx hE hF => ?_) ?_
  · obtain ⟨a0, b0, he, g1, g2⟩ := hF _ (List.Mem.head _) (by kernel_rfl)
    cases he
    have := CheckLedger_any l a5 b5 Wx g1 g2
    rw [HQ.out] at this
    exact this
  simp only [Act.put, List.setIfInBounds_toArray, List.set_cons_succ, List.set_cons_zero]
  repeat (first | (refine tree_det (by rfl) _ (by rfl) (fun W hW => by go_simp; (try simp (disch := omega) only [IntWalk.i64_in]); try rfl) ?_; simp only [Act.put, List.setIfInBounds_toArray, List.set_cons_succ, List.set_cons_zero]) | (refine tree_skip (by rfl) (by rfl) ?_; simp only [Act.put, List.setIfInBounds_toArray, List.set_cons_succ, List.set_cons_zero]))
  refine tree_some _ (by rfl) (by rfl) (by exact ⟨lv l (.slice none 0 0) (.slice none 0 0), _, _, rfl⟩) (fun Wx hE hF => ?_) (fun v Wx Wy ho hE => ?_) (fun v hv => ?_)
  · have hE' : Ext [] W4 Wx := hE
    refine does_enter 22 #[lv l tv (.slice on l.notes.length cn)] (by go_simp; try rfl) ?_
    refine (Ledger_any l tv (.slice on l.notes.length cn) Wx (HA.out.1.below (bgo HK4.out.below hE'.below) (Nat.le_refl _)) (HA.out.2.below (bgo HK4.out.below hE'.below) (Nat.le_refl _)) (by have := HM.out.1; omega) (by have := HM.out.2; omega)).mono ?_
    rintro e W' ⟨a0, b0, rfl, ht0, hn0, hb⟩
    exact ⟨_, rfl, ⟨_, _, rfl⟩, ⟨_, _, rfl, ht0, hn0⟩, Ext.of_below hb⟩
  · obtain ⟨a0, b0, rfl, g1, g2⟩ := ho
    have hb := Ext.below (show Ext [] Wx Wy from hE)
    exact ⟨_, _, rfl, g1.below hb (Nat.le_refl _), g2.below hb (Nat.le_refl _)⟩
  obtain ⟨a7, b7, rfl⟩ := hv
  simp only [Act.put, List.setIfInBounds_toArray, List.set_cons_succ, List.set_cons_zero]
  repeat (first | (refine tree_det (by rfl) _ (by rfl) (fun W hW => by go_simp; (try simp (disch := omega) only [IntWalk.i64_in]); try rfl) ?_; simp only [Act.put, List.setIfInBounds_toArray, List.set_cons_succ, List.set_cons_zero]) | (refine tree_skip (by rfl) (by rfl) ?_; simp only [Act.put, List.setIfInBounds_toArray, List.set_cons_succ, List.set_cons_zero]))
  refine tree_some _ (by rfl) (by rfl) (by exact ⟨.agg #[.slice none 0 0, .slice none 0 0], _, _, rfl⟩) (fun Wx hE hF => ?_) (fun v Wx Wy ho hE => ?_) (fun v hv => ?_)
  · have hE' : Ext [] W4 Wx := hE
    have hb := hE'.below
    refine does_enter 70 #[.agg #[.slice ro rows.length rc, .slice po ps.length pc]] (by go_simp; try rfl) ?_
    refine (zTruth_any rows ps (.slice ro rows.length rc) (.slice po ps.length pc) Wx (HP2.out.1.below (bgo HK4.out.below hb) (Nat.le_refl _)) (HP2.out.2.below (bgo HK4.out.below hb) (Nat.le_refl _)) (by omega) (by omega)).mono ?_
    rintro e W' ⟨u, v, rfl, hu, hv, hb⟩
    exact ⟨_, rfl, ⟨_, _, rfl⟩, ⟨_, _, rfl, hu, hv⟩, Ext.of_below hb⟩
  · obtain ⟨a0, b0, rfl, g1, g2⟩ := ho
    have hb := Ext.below (show Ext [] Wx Wy from hE)
    exact ⟨_, _, rfl, g1.below hb (Nat.le_refl _), g2.below hb (Nat.le_refl _)⟩
  obtain ⟨a9, b9, rfl⟩ := hv
  simp only [Act.put, List.setIfInBounds_toArray, List.set_cons_succ, List.set_cons_zero]
  repeat (first | (refine tree_det (by rfl) _ (by rfl) (fun W hW => by go_simp; (try simp (disch := omega) only [IntWalk.i64_in]); try rfl) ?_; simp only [Act.put, List.setIfInBounds_toArray, List.set_cons_succ, List.set_cons_zero]) | (refine tree_skip (by rfl) (by rfl) ?_; simp only [Act.put, List.setIfInBounds_toArray, List.set_cons_succ, List.set_cons_zero]))
  refine tree_val _ (by rfl) (by rfl) 69 #[lv l a7 b7, .agg #[a9, b9]] (fun W hW => by go_simp; try rfl) (fun Wx hE hF => ?_) ?_
  · obtain ⟨a0, b0, he, g1, g2⟩ := hF _ (List.Mem.tail _ (List.Mem.head _)) (by kernel_rfl)
    cases he
    obtain ⟨a0, b0, he, g3, g4⟩ := hF _ (List.Mem.head _) (by kernel_rfl)
    cases he
    have := ProveTruth_any l a7 b7 a9 b9 rows ps Wx g1 g2 g3 g4
    rw [HIS.out] at this
    exact this
  simp only [Act.put, List.setIfInBounds_toArray, List.set_cons_succ, List.set_cons_zero]
  repeat (first | (refine tree_det (by rfl) _ (by rfl) (fun W hW => by go_simp; (try simp (disch := omega) only [IntWalk.i64_in]); try rfl) ?_; simp only [Act.put, List.setIfInBounds_toArray, List.set_cons_succ, List.set_cons_zero]) | (refine tree_skip (by rfl) (by rfl) ?_; simp only [Act.put, List.setIfInBounds_toArray, List.set_cons_succ, List.set_cons_zero]))
  refine tree_val _ (by rfl) (by rfl) 71 #[lv l tv (.slice on l.notes.length cn), .agg #[.slice ro rows.length rc, .slice po ps.length pc]] (fun W hW => by go_simp; try rfl) (fun Wx hE hF => ?_) ?_
  · have hb := Ext.below (show Ext [] W4 Wx from hE)
    have := zIsTruth_any HQ.out tv (.slice on l.notes.length cn) (.slice ro rows.length rc) (.slice po ps.length pc) rows ps (by omega) Wx (HA.out.1.below (bgo HK4.out.below hb) (Nat.le_refl _)) (HA.out.2.below (bgo HK4.out.below hb) (Nat.le_refl _)) (HP2.out.1.below (bgo HK4.out.below hb) (Nat.le_refl _)) (HP2.out.2.below (bgo HK4.out.below hb) (Nat.le_refl _))
    rw [HIS.out] at this
    exact this
  simp only [Act.put, List.setIfInBounds_toArray, List.set_cons_succ, List.set_cons_zero]
  repeat (first | (refine tree_det (by rfl) _ (by rfl) (fun W hW => by go_simp; (try simp (disch := omega) only [IntWalk.i64_in]); try rfl) ?_; simp only [Act.put, List.setIfInBounds_toArray, List.set_cons_succ, List.set_cons_zero]) | (refine tree_skip (by rfl) (by rfl) ?_; simp only [Act.put, List.setIfInBounds_toArray, List.set_cons_succ, List.set_cons_zero]))
  intro W5 hE hF
  have hb := Ext.below (show Ext [] W4 W5 from hE)
  clear hE hF
  have HK5 := Lib.hid (HK4.out.next hb)
  clear hb
  (try clear c0 f0)
  (try clear c1 f1)
  obtain ⟨c0, f0, l0⟩ := cells_of_block HK5.out.blk.2
  obtain ⟨c1, f1, l1⟩ := cells_of_block HK5.out.blk.1
  go_wp2_with fail
  have HRT := Lib.hid (rIsTruth_gen l.field (faultW_sound HQ.out).1.field tv (.slice ro rows.length rc) rows (by omega) W5 (HA.out.1.below HK5.out.below (Nat.le_refl _)) (HP2.out.1.below HK5.out.below (Nat.le_refl _)))
  rw [HPT.out] at HRT
  refine HRT.out.mono ?_
  rintro e W6 ⟨rfl, hb⟩
  clear HRT
  have HK6 := Lib.hid (HK5.out.next hb)
  clear hb
  (try clear c0 f0)
  (try clear c1 f1)
  obtain ⟨c0, f0, l0⟩ := cells_of_block HK6.out.blk.2
  obtain ⟨c1, f1, l1⟩ := cells_of_block HK6.out.blk.1
  go_wp2_with fail
  refine (HDU.out W6 (HP2.out.1.below HK6.out.below (Nat.le_refl _))).mono ?_
  rintro e W7 ⟨v7, rfl, hv7, hb⟩
  obtain ⟨vo, vc, rfl⟩ := owns_slice hv7
  have HV7 := Lib.hid (SlAt.of_owns hv7)
  clear hv7
  have HK7 := Lib.hid (HK6.out.next hb)
  clear hb
  (try clear c0 f0)
  (try clear c1 f1)
  obtain ⟨c0, f0, l0⟩ := cells_of_block HK7.out.blk.2
  obtain ⟨c1, f1, l1⟩ := cells_of_block HK7.out.blk.1
  go_wp2_with fail
  refine (same_any D D (.slice uo n uc) (.slice vo n vc) W7 (IntsAt.of_at HK7.out.is.1 HDD.out.2) (IntsAt.of_at HV7.out HDD.out.2)).mono ?_
  rw [beq_self_eq_true]
  rintro e W8 ⟨rfl, hb⟩
  have HK8 := Lib.hid (HK7.out.next hb)
  clear hb
  (try clear c0 f0)
  (try clear c1 f1)
  obtain ⟨c0, f0, l0⟩ := cells_of_block HK8.out.blk.2
  obtain ⟨c1, f1, l1⟩ := cells_of_block HK8.out.blk.1
  go_wp2_with fail
  refine (awake_any _).mono ?_
  rintro e W9 ⟨rfl, hb⟩
  have HB9 := Lib.hid (bgo HK8.out.below hb)
  clear hb
  go_wp2_with fail
  go_returns
  exact ⟨by simp, HB9.out⟩
end Go.Proofs.YtdjgikcnmokjkaaGreat
