/-
  The walk of CouchMore: whatever the heap, one more reading and the turnings by bits, it returns true; nothing that was there has turned.
-/
import Derived.WalkKit
import Derived.WalkLawsBesides
import Derived.WalkSpells
import Derived.Outline
import Derived.Handy
import Derived.KernelRfl
import Derived.Lib.Hide
import Derived.Test.YtoibfafmnaooaaaSG
namespace Go.Proofs.Ytoibfafmnaooaaa
open Go.RowKit Go.RG Go.SL Go.Shelf Cou
set_option maxHeartbeats 400000
set_option maxRecDepth 10000

set_option maxHeartbeats 4000000 in
theorem CouchMore_any (h : HeapD) (wv tv xv' : Value) (m : Rdg) (bs : Nat) (w : World) (hw : PairsAt w wv h.wet) (ht : IntsAt w tv h.turns) (hx : TriplesAt w xv' h.readings) (hbs : (bs : Int) ≤ 65535) (hrx : h.readings.length * 24 ≤ 140737488351232) :
    Calls Try.prog 8 #[hv h wv tv xv', xv m, .int .u16 bs] w (PV (.bool true) w) := by
  have hlx := hx.len
  obtain ⟨ow, cw, rfl⟩ := hw.open
  obtain ⟨ot, ct, rfl⟩ := ht.open
  obtain ⟨ox, cx, rfl⟩ := hx.open
  have HW := Lib.hid hw
  have HT := Lib.hid ht
  have HX := Lib.hid hx
  clear hw ht hx
  obtain ⟨mh, ms, me⟩ := m
  go_enter Try.func8, Try.ntmps8
  go_wp2_with fail
  refine gworld fun W0 hW0 => ?_
  have HBW := Lib.hid (show Below w.heap.size w W0 from by rw [hW0]; exact (by repeat (first | exact Below.refl _ _ | assumption | refine bgo ?_ (by assumption) | refine bgoAlloc ?_ _ | refine bgoDrew ?_ | refine bgoSet ?_ (by simp; omega) _)))
  have HA0 := Lib.hid (show W0.heap[w.heap.size]? = some (.cells #[.int .i64 h.last, .int .i64 h.size, .int .i64 h.cool, .int .i64 h.die, .int .i64 h.burn, .int .i64 h.start.1, .int .i64 h.start.2, .slice ow h.wet.length cw, .slice ot h.turns.length ct, .slice ox h.readings.length cx] 28 (0, 0)) from by rw [hW0]; exact (Below.heap_alloc _ _ _ (by first | omega | (simp; done) | (simp; omega))).trans ((Below.heap_alloc _ _ _ (by first | omega | (simp; done) | (simp; omega))).trans (heap_new0 _ _)))
  have HM0 := Lib.hid (show W0.heap[w.heap.size + 1]? = some (.cells #[iv mh, iv ms, iv me] 79 (0, 0)) from by rw [hW0]; exact (Below.heap_alloc _ _ _ (by first | omega | (simp; done) | (simp; omega))).trans (heap_new1 _ _ _))
  have HY0 := Lib.hid (show W0.heap[w.heap.size + 1 + 1]? = some (.cells #[.int .i64 h.last, .int .i64 h.size, .int .i64 h.cool, .int .i64 h.die, .int .i64 h.burn, .int .i64 h.start.1, .int .i64 h.start.2, .slice ow h.wet.length cw, .slice ot h.turns.length ct, .slice ox h.readings.length cx] 28 (0, 0)) from by rw [hW0]; exact heap_new2 _ _ _ _)
  clear hW0
  have HX00 := Lib.hid (HX.out.below HBW.out (Nat.le_refl _))
  obtain ⟨hc1, _, hs1⟩ := cells_of_block HA0.out
  obtain ⟨hc2, _, hs2⟩ := cells_of_block HM0.out
  obtain ⟨hc3, _, hs3⟩ := cells_of_block HY0.out
  refine wp_region_rg 6 [] none [(0, Spec.slice W0.heap.size #[] 79 0), (3, ⟨fun _ v => ∃ o c, v = .slice o h.readings.length c, fun _ v Wx => Wx.ownsRow W0.heap.size 79 3 v h.readings.length (tripleCells h.readings)⟩), (5, Spec.slice W0.heap.size #[iv mh, iv ms, iv me] 79 1)] (by kernel_rfl) (by kernel_rfl) ?_
  simp only [List.take_succ_cons, List.take_zero, List.drop_succ_cons, List.drop_zero]
  repeat (first | (refine tree_det (by rfl) _ (by rfl) (fun W hW => by go_simp; try rfl) ?_; simp only [Act.put, List.setIfInBounds_toArray, List.set_cons_succ, List.set_cons_zero]) | (refine tree_skip (by rfl) (by rfl) ?_; simp only [Act.put, List.setIfInBounds_toArray, List.set_cons_succ, List.set_cons_zero]))
  refine tree_slice W0.heap.size _ _ 0 (by rfl) (Nat.le_refl _) (by rfl) (by simp) (by simp) (fun W hW => by go_simp; try rfl) (fun b0 => ?_)
  simp only [Act.put, List.setIfInBounds_toArray, List.set_cons_succ, List.set_cons_zero]
  repeat (first | (refine tree_det (by rfl) _ (by rfl) (fun W hW => by go_simp; try rfl) ?_; simp only [Act.put, List.setIfInBounds_toArray, List.set_cons_succ, List.set_cons_zero]) | (refine tree_skip (by rfl) (by rfl) ?_; simp only [Act.put, List.setIfInBounds_toArray, List.set_cons_succ, List.set_cons_zero]))
  refine tree_some _ (by rfl) (by rfl) (by exact ⟨.slice none h.readings.length 0, none, 0, rfl⟩) (fun W hE hF => ?_) (fun v Wa Wb ho hE => owns_ext (Ms := []) ho hE (by simp)) (fun v hv => ?_)
  · have hE' : Ext [] W0 W := hE
    obtain ⟨b', hb', hge, hc⟩ := hF _ (List.Mem.head _) (by kernel_rfl)
    cases hb'
    refine Does.mono (does_append_empty tReadings4 (by rfl) (by rfl) hge hc (by rfl) (HX00.out.below hE'.below (Nat.le_refl _)) (one_triples _) (by omega) (by omega) hE'.size) ?_
    rintro v W' ⟨ho, hE2⟩
    exact ⟨owns_slice ho, ho, hE2⟩
  obtain ⟨o3, c3, rfl⟩ := hv
  simp only [Act.put, List.setIfInBounds_toArray, List.set_cons_succ, List.set_cons_zero]
  repeat (first | (refine tree_det (by rfl) _ (by rfl) (fun W hW => by go_simp; try rfl) ?_; simp only [Act.put, List.setIfInBounds_toArray, List.set_cons_succ, List.set_cons_zero]) | (refine tree_skip (by rfl) (by rfl) ?_; simp only [Act.put, List.setIfInBounds_toArray, List.set_cons_succ, List.set_cons_zero]))
  refine tree_slice W0.heap.size _ _ 1 (by rfl) (Nat.le_refl _) (by rfl) (by simp) (by simp) (fun W hW => by go_simp; try rfl) (fun b5 => ?_)
  simp only [Act.put, List.setIfInBounds_toArray, List.set_cons_succ, List.set_cons_zero]
  repeat (first | (refine tree_det (by rfl) _ (by rfl) (fun W hW => by go_simp; try rfl) ?_; simp only [Act.put, List.setIfInBounds_toArray, List.set_cons_succ, List.set_cons_zero]) | (refine tree_skip (by rfl) (by rfl) ?_; simp only [Act.put, List.setIfInBounds_toArray, List.set_cons_succ, List.set_cons_zero]))
  intro W2 hE hF
  have hE' : Ext [] W0 W2 := hE
  obtain ⟨b5', hb5, hge5, hc5⟩ := hF _ (List.Mem.head _)
  cases hb5
  have hown : W2.ownsRow W0.heap.size 79 3 (.slice o3 h.readings.length c3) h.readings.length (tripleCells h.readings) := hF _ (List.Mem.tail _ (List.Mem.head _))
  have HE2 := Lib.hid hE'
  have HOW := Lib.hid hown
  have HSRC : Hid (SlAt 3 W2 (.slice (some ⟨b5, 0, none⟩) 1 1) 1 (tripleCells [(mh, ms, me)])) := Lib.hid (SlAt.of_block 3 1 hc5 rfl (by decide))
  have hsz2 := hE'.size
  clear hE hF hE' hown hc5 hc1 hc2 hc3
  go_wp2_with (at_builtin; refine wpList_append rfl _ _ tReadings4 rfl W0.heap.size (.slice o3 h.readings.length c3) h.readings.length (tripleCells h.readings) rfl HOW.out (.slice (some ⟨b5, 0, none⟩) 1 1) 1 (tripleCells [(mh, ms, me)]) rfl HSRC.out (one_triples _) (by omega) (by omega) (by omega) ?_)
  intro v' w1 hown hgrow
  have hB1 : Below W0.heap.size W0 w1 := Below.grown HE2.out.below hgrow hsz2 (fun k e => (owns_ge HOW.out k e).1)
  obtain ⟨ov, cv, rfl⟩ := owns_slice hown
  have hY1 := (hB1.block _ hs3).trans HY0.out
  obtain ⟨hc3, _, hs3'⟩ := cells_of_block hY1
  obtain ⟨hcA, _, hsA⟩ := cells_of_block ((hB1.block _ hs1).trans HA0.out)
  have HY1 := Lib.hid hY1
  have HOV := Lib.hid hown
  have HBW1 := Lib.hid hB1
  clear hown hgrow hY1 hB1
  go_wp2_with fail
  refine gcallsW fun B0 hB0 => ?_
  have HBB := Lib.hid (show Below w.heap.size w B0 from by rw [hB0]; exact bgoSet (bgo HBW.out HBW1.out) (by show w.heap.size ≤ w.heap.size + 1 + 1; omega) _)
  have HX1 := Lib.hid (show B0.heap[w.heap.size]? = some (.cells #[.int .i64 h.last, .int .i64 h.size, .int .i64 h.cool, .int .i64 h.die, .int .i64 h.burn, .int .i64 h.start.1, .int .i64 h.start.2, .slice ow h.wet.length cw, .slice ot h.turns.length ct, .slice ox h.readings.length cx] 28 (0, 0)) from by rw [hB0]; exact (Below.heap_setCell _ _ _ _ (by show w.heap.size ≠ w.heap.size + 1 + 1; omega)).trans ((HBW1.out.block _ hs1).trans HA0.out))
  have HX2 := Lib.hid (show B0.heap[w.heap.size + 1 + 1]? = some (.cells #[iv h.last, iv h.size, iv h.cool, iv h.die, iv h.burn, iv h.start.1, iv h.start.2, .slice ow h.wet.length cw, .slice ot h.turns.length ct, .slice ov (h.readings.length + 1) cv] 28 (0, 0)) from by rw [hB0]; exact set_block HY1.out _)
  have HXR0 : Hid (TriplesAt B0 (.slice ov (h.readings.length + 1) cv) (h.readings ++ [(mh, ms, me)])) := Lib.hid (by
    unfold TriplesAt
    rw [List.length_append, tripleCells_snoc, hB0]
    exact SlAt.of_owns (owns_ext (Ms := [w.heap.size + 1 + 1]) HOV.out (ext_set w1 ⟨w.heap.size + 1 + 1, 9, none⟩ (.slice ov (h.readings.length + 1) cv)) (by simpa using hs3)))
  have HW0 := Lib.hid (HW.out.below HBB.out (Nat.le_refl _))
  have HT0 := Lib.hid (HT.out.below HBB.out (Nat.le_refl _))
  have HX0 := Lib.hid (HX.out.below HBB.out (Nat.le_refl _))
  have HB0 := Lib.hid (Below.refl B0.heap.size B0)
  clear hB0 hc3 hcA hsA hs3' hs1 hs2 hs3 hsz2 HOV HY1 HBW1 HE2 HOW HSRC HA0 HM0 HY0 HBW HX00
  cases hr : readyB h
  case false =>
    have HR := Lib.hid hr
    clear hr
    refine (ready_any (h) _ _ _ _ (HW0.out.below HB0.out (Nat.le_refl _)) (HT0.out.below HB0.out (Nat.le_refl _)) (HX0.out.below HB0.out (Nat.le_refl _))).mono ?_
    rw [HR.out]
    rintro e W1 ⟨rfl, hb⟩
    (try clear hc1 hs1 hc2 hs2)
    have HD1 := Lib.hid hb
    have HB1 := Lib.hid (bgo HB0.out hb)
    obtain ⟨hc1, _, hs1⟩ := cells_of_block ((HB1.out.block _ (cells_of_block HX1.out).2.2).trans HX1.out)
    obtain ⟨hc2, _, hs2⟩ := cells_of_block ((HB1.out.block _ (cells_of_block HX2.out).2.2).trans HX2.out)
    clear hb
    go_wp2_with fail
    refine (awake_any _).mono ?_
    rintro e W2 ⟨rfl, hb⟩
    (try clear hc1 hs1 hc2 hs2)
    have HD2 := Lib.hid hb
    have HB2 := Lib.hid (bgo HB1.out hb)
    obtain ⟨hc1, _, hs1⟩ := cells_of_block ((HB2.out.block _ (cells_of_block HX1.out).2.2).trans HX1.out)
    obtain ⟨hc2, _, hs2⟩ := cells_of_block ((HB2.out.block _ (cells_of_block HX2.out).2.2).trans HX2.out)
    clear hb
    go_wp2_with fail
    go_returns
    exact ⟨by simp, bgo HBB.out HB2.out⟩
  have HR := Lib.hid hr
  cases hr2 : readyB (moreH h (mh, ms, me))
  case false =>
    have HR2 := Lib.hid hr2
    clear hr hr2
    refine (ready_any (h) _ _ _ _ (HW0.out.below HB0.out (Nat.le_refl _)) (HT0.out.below HB0.out (Nat.le_refl _)) (HX0.out.below HB0.out (Nat.le_refl _))).mono ?_
    rw [HR.out]
    rintro e W1 ⟨rfl, hb⟩
    (try clear hc1 hs1 hc2 hs2)
    have HD1 := Lib.hid hb
    have HB1 := Lib.hid (bgo HB0.out hb)
    obtain ⟨hc1, _, hs1⟩ := cells_of_block ((HB1.out.block _ (cells_of_block HX1.out).2.2).trans HX1.out)
    obtain ⟨hc2, _, hs2⟩ := cells_of_block ((HB1.out.block _ (cells_of_block HX2.out).2.2).trans HX2.out)
    clear hb
    go_wp2_with fail
    refine (ready_any (moreH h (mh, ms, me)) _ _ _ _ (HW0.out.below HB1.out (Nat.le_refl _)) (HT0.out.below HB1.out (Nat.le_refl _)) (HXR0.out.below HB1.out (Nat.le_refl _))).mono ?_
    rw [HR2.out]
    rintro e W2 ⟨rfl, hb⟩
    (try clear hc1 hs1 hc2 hs2)
    have HD2 := Lib.hid hb
    have HB2 := Lib.hid (bgo HB1.out hb)
    obtain ⟨hc1, _, hs1⟩ := cells_of_block ((HB2.out.block _ (cells_of_block HX1.out).2.2).trans HX1.out)
    obtain ⟨hc2, _, hs2⟩ := cells_of_block ((HB2.out.block _ (cells_of_block HX2.out).2.2).trans HX2.out)
    clear hb
    go_wp2_with fail
    refine (awake_any _).mono ?_
    rintro e W3 ⟨rfl, hb⟩
    (try clear hc1 hs1 hc2 hs2)
    have HD3 := Lib.hid hb
    have HB3 := Lib.hid (bgo HB2.out hb)
    obtain ⟨hc1, _, hs1⟩ := cells_of_block ((HB3.out.block _ (cells_of_block HX1.out).2.2).trans HX1.out)
    obtain ⟨hc2, _, hs2⟩ := cells_of_block ((HB3.out.block _ (cells_of_block HX2.out).2.2).trans HX2.out)
    clear hb
    go_wp2_with fail
    go_returns
    exact ⟨by simp, bgo HBB.out HB3.out⟩
  have HR2 := Lib.hid hr2
  obtain ⟨hS, hf0, _, hl12⟩ := ready_sound hr
  obtain ⟨hS2, hf2, _, _⟩ := ready_sound hr2
  have hw10 : h.wet.length ≤ 10 := by have := hS.wetLen; have := hS.last9; omega
  have hx5 := hS.rdgs
  have hl0 := hS.last0
  have hl9 := hS.last9
  have HXL : Hid ((h.readings ++ [(mh, ms, me)]).length ≤ 5) := Lib.hid hS2.rdgs
  obtain ⟨hm1, hm2, hm3⟩ := more_plain hS hS2
  have htu := turned_turns (h := h) hl0 bs
  have hTL : (turnedL h bs).length ≤ 10 := by
    have := ((turns_inc hl0 _).1 htu).len
    omega
  obtain ⟨L1, hL1⟩ : ∃ L, leaveL h = L := ⟨_, rfl⟩
  obtain ⟨L2, hL2⟩ : ∃ L, leaveL (moreH h (mh, ms, me)) = L := ⟨_, rfl⟩
  rw [hL1, hL2] at hm1 hm2
  rw [hL2] at hm3
  have HL := Lib.hid (And.intro hL1 hL2)
  have HF := Lib.hid (And.intro hf0 hf2)
  have hm1I : ¬ (L2.length : Int) < L1.length := by omega
  have hm2I : ¬ (L1.length : Int) + 1 < L2.length := by omega
  have hm1d : decide (L2.length < L1.length) = false := decide_eq_false (by omega)
  have hm2d : decide (L1.length + 1 < L2.length) = false := decide_eq_false (by omega)
  have hm3d : decide ((L1.length : Int) + 1 < L2.length) = false := decide_eq_false (by omega)
  have hL1b : L1.length ≤ 5 := by
    obtain ⟨c, hc, _, c2, _⟩ := leave_some hS
    have := c2.len
    rw [← hL1, hc]
    omega
  by_cases h0 : 0 < L2.length
  case pos =>
    have h0I : (0 : Int) < L2.length := by omega
    clear hr hr2 hS hS2 hf0 hf2 hm3 htu hL1 hL2
    refine (ready_any (h) _ _ _ _ (HW0.out.below HB0.out (Nat.le_refl _)) (HT0.out.below HB0.out (Nat.le_refl _)) (HX0.out.below HB0.out (Nat.le_refl _))).mono ?_
    rw [HR.out]
    rintro e W1 ⟨rfl, hb⟩
    (try clear hc1 hs1 hc2 hs2)
    have HD1 := Lib.hid hb
    have HB1 := Lib.hid (bgo HB0.out hb)
    obtain ⟨hc1, _, hs1⟩ := cells_of_block ((HB1.out.block _ (cells_of_block HX1.out).2.2).trans HX1.out)
    obtain ⟨hc2, _, hs2⟩ := cells_of_block ((HB1.out.block _ (cells_of_block HX2.out).2.2).trans HX2.out)
    clear hb
    go_wp2_with fail
    refine (ready_any (moreH h (mh, ms, me)) _ _ _ _ (HW0.out.below HB1.out (Nat.le_refl _)) (HT0.out.below HB1.out (Nat.le_refl _)) (HXR0.out.below HB1.out (Nat.le_refl _))).mono ?_
    rw [HR2.out]
    rintro e W2 ⟨rfl, hb⟩
    (try clear hc1 hs1 hc2 hs2)
    have HD2 := Lib.hid hb
    have HB2 := Lib.hid (bgo HB1.out hb)
    obtain ⟨hc1, _, hs1⟩ := cells_of_block ((HB2.out.block _ (cells_of_block HX1.out).2.2).trans HX1.out)
    obtain ⟨hc2, _, hs2⟩ := cells_of_block ((HB2.out.block _ (cells_of_block HX2.out).2.2).trans HX2.out)
    clear hb
    go_wp2_with fail
    refine (Heap_any (h) _ _ _ _ (HW0.out.below HB2.out (Nat.le_refl _)) (HT0.out.below HB2.out (Nat.le_refl _)) (HX0.out.below HB2.out (Nat.le_refl _)) (by show h.wet.length ≤ 1000; omega) (by show h.turns.length ≤ 1000; omega) (by show h.readings.length ≤ 1000; omega)).mono ?_
    rintro e W3 ⟨a3, b3, c3, rfl, h1, h2, h3, hb⟩
    (try clear hc1 hs1 hc2 hs2)
    have HD3 := Lib.hid hb
    have HB3 := Lib.hid (bgo HB2.out hb)
    obtain ⟨hc1, _, hs1⟩ := cells_of_block ((HB3.out.block _ (cells_of_block HX1.out).2.2).trans HX1.out)
    obtain ⟨hc2, _, hs2⟩ := cells_of_block ((HB3.out.block _ (cells_of_block HX2.out).2.2).trans HX2.out)
    clear hb
    have HH3 := Lib.hid (And.intro h1 (And.intro h2 h3))
    clear h1 h2 h3
    go_wp2_with fail
    refine (Leave_any (h) _ _ _ _ HH3.out.1 HH3.out.2.1 HH3.out.2.2).mono ?_
    rintro e W4 ⟨v, rfl, hv, hb⟩
    rw [HF.out.1]
    rw [HL.out.1] at hv
    obtain ⟨o4, k4, rfl⟩ := hv.open
    clear hv
    (try clear hc1 hs1 hc2 hs2)
    have HD4 := Lib.hid hb
    have HB4 := Lib.hid (bgo HB3.out hb)
    obtain ⟨hc1, _, hs1⟩ := cells_of_block ((HB4.out.block _ (cells_of_block HX1.out).2.2).trans HX1.out)
    obtain ⟨hc2, _, hs2⟩ := cells_of_block ((HB4.out.block _ (cells_of_block HX2.out).2.2).trans HX2.out)
    clear hb
    go_wp2_with fail
    refine (Heap_any (moreH h (mh, ms, me)) _ _ _ _ (HW0.out.below HB4.out (Nat.le_refl _)) (HT0.out.below HB4.out (Nat.le_refl _)) (HXR0.out.below HB4.out (Nat.le_refl _)) (by show h.wet.length ≤ 1000; omega) (by show h.turns.length ≤ 1000; omega) (Nat.le_trans (show (moreH h (mh, ms, me)).readings.length ≤ 5 from HXL.out) (by omega))).mono ?_
    rintro e W5 ⟨a5, b5, c5, rfl, h1, h2, h3, hb⟩
    (try clear hc1 hs1 hc2 hs2)
    have HD5 := Lib.hid hb
    have HB5 := Lib.hid (bgo HB4.out hb)
    obtain ⟨hc1, _, hs1⟩ := cells_of_block ((HB5.out.block _ (cells_of_block HX1.out).2.2).trans HX1.out)
    obtain ⟨hc2, _, hs2⟩ := cells_of_block ((HB5.out.block _ (cells_of_block HX2.out).2.2).trans HX2.out)
    clear hb
    have HH5 := Lib.hid (And.intro h1 (And.intro h2 h3))
    clear h1 h2 h3
    go_wp2_with fail
    refine (Leave_any (moreH h (mh, ms, me)) _ _ _ _ HH5.out.1 HH5.out.2.1 HH5.out.2.2).mono ?_
    rintro e W6 ⟨v, rfl, hv, hb⟩
    rw [HF.out.2]
    rw [HL.out.2] at hv
    obtain ⟨o6, k6, rfl⟩ := hv.open
    clear hv
    (try clear hc1 hs1 hc2 hs2)
    have HD6 := Lib.hid hb
    have HB6 := Lib.hid (bgo HB5.out hb)
    obtain ⟨hc1, _, hs1⟩ := cells_of_block ((HB6.out.block _ (cells_of_block HX1.out).2.2).trans HX1.out)
    obtain ⟨hc2, _, hs2⟩ := cells_of_block ((HB6.out.block _ (cells_of_block HX2.out).2.2).trans HX2.out)
    clear hb
    go_wp2_with fail
    refine (awake_any _).mono ?_
    rintro e W7 ⟨rfl, hb⟩
    (try clear hc1 hs1 hc2 hs2)
    have HD7 := Lib.hid hb
    have HB7 := Lib.hid (bgo HB6.out hb)
    obtain ⟨hc1, _, hs1⟩ := cells_of_block ((HB7.out.block _ (cells_of_block HX1.out).2.2).trans HX1.out)
    obtain ⟨hc2, _, hs2⟩ := cells_of_block ((HB7.out.block _ (cells_of_block HX2.out).2.2).trans HX2.out)
    clear hb
    go_wp2_with fail
    go_returns
    exact ⟨by simp, bgo HBB.out HB7.out⟩
  obtain rfl : L1 = [] := List.eq_nil_of_length_eq_zero (by omega)
  obtain rfl : L2 = [] := List.eq_nil_of_length_eq_zero (by omega)
  clear hm1 hm2 hm1I hm2I hm1d hm2d hm3d hL1b h0
  obtain ⟨hn, hsub⟩ := hm3 rfl
  obtain ⟨p1, p2, p3, p4, p5, p6⟩ := hsub.plain hn htu
  obtain ⟨B1, hB1⟩ : ∃ B, boundsOut h (turnedL h bs) = B := ⟨_, rfl⟩
  obtain ⟨B2, hB2⟩ : ∃ B, boundsOut (moreH h (mh, ms, me)) (turnedL h bs) = B := ⟨_, rfl⟩
  obtain ⟨u1, hu1⟩ : ∃ u, keepsV h (turnedL h bs) = u := ⟨_, rfl⟩
  obtain ⟨u2, hu2⟩ : ∃ u, keepsV (moreH h (mh, ms, me)) (turnedL h bs) = u := ⟨_, rfl⟩
  obtain ⟨n1, hn1⟩ : ∃ n, neededV h = n := ⟨_, rfl⟩
  obtain ⟨n2, hn2⟩ : ∃ n, neededV (moreH h (mh, ms, me)) = n := ⟨_, rfl⟩
  rw [hB1, hB2] at p3
  rw [hu1, hu2] at p4
  rw [hn2] at p5
  rw [hn1, hn2] at p6
  have HP := Lib.hid (And.intro p1 (And.intro p2 (And.intro p3 (And.intro hB1 (And.intro hB2 (And.intro hu1 (And.intro hu2 (And.intro hn1 hn2))))))))
  have q1 : ((u1 == 3) = true) ∨ ((u1 == 3) = false ∧ (u1 == u2) = true) := by
    rcases p4 with e | e
    · left; simp [e]
    · by_cases c : u1 = 3
      · left; simp [c]
      · right; exact ⟨by rw [beq_eq_false_iff_ne]; exact c, by simp [e]⟩
  have hn0 : ¬ n2 < 0 := by omega
  clear hr hr2 hS hS2 hf0 hf2 htu hL1 hL2 hm3 hn hsub p1 p2 p3 p4 hB1 hB2 hu1 hu2 hn1 hn2
  refine (ready_any (h) _ _ _ _ (HW0.out.below HB0.out (Nat.le_refl _)) (HT0.out.below HB0.out (Nat.le_refl _)) (HX0.out.below HB0.out (Nat.le_refl _))).mono ?_
  rw [HR.out]
  rintro e W1 ⟨rfl, hb⟩
  (try clear hc1 hs1 hc2 hs2)
  have HD1 := Lib.hid hb
  have HB1 := Lib.hid (bgo HB0.out hb)
  obtain ⟨hc1, _, hs1⟩ := cells_of_block ((HB1.out.block _ (cells_of_block HX1.out).2.2).trans HX1.out)
  obtain ⟨hc2, _, hs2⟩ := cells_of_block ((HB1.out.block _ (cells_of_block HX2.out).2.2).trans HX2.out)
  clear hb
  go_wp2_with fail
  refine (ready_any (moreH h (mh, ms, me)) _ _ _ _ (HW0.out.below HB1.out (Nat.le_refl _)) (HT0.out.below HB1.out (Nat.le_refl _)) (HXR0.out.below HB1.out (Nat.le_refl _))).mono ?_
  rw [HR2.out]
  rintro e W2 ⟨rfl, hb⟩
  (try clear hc1 hs1 hc2 hs2)
  have HD2 := Lib.hid hb
  have HB2 := Lib.hid (bgo HB1.out hb)
  obtain ⟨hc1, _, hs1⟩ := cells_of_block ((HB2.out.block _ (cells_of_block HX1.out).2.2).trans HX1.out)
  obtain ⟨hc2, _, hs2⟩ := cells_of_block ((HB2.out.block _ (cells_of_block HX2.out).2.2).trans HX2.out)
  clear hb
  go_wp2_with fail
  refine (Heap_any (h) _ _ _ _ (HW0.out.below HB2.out (Nat.le_refl _)) (HT0.out.below HB2.out (Nat.le_refl _)) (HX0.out.below HB2.out (Nat.le_refl _)) (by show h.wet.length ≤ 1000; omega) (by show h.turns.length ≤ 1000; omega) (by show h.readings.length ≤ 1000; omega)).mono ?_
  rintro e W3 ⟨a3, b3, c3, rfl, h1, h2, h3, hb⟩
  (try clear hc1 hs1 hc2 hs2)
  have HD3 := Lib.hid hb
  have HB3 := Lib.hid (bgo HB2.out hb)
  obtain ⟨hc1, _, hs1⟩ := cells_of_block ((HB3.out.block _ (cells_of_block HX1.out).2.2).trans HX1.out)
  obtain ⟨hc2, _, hs2⟩ := cells_of_block ((HB3.out.block _ (cells_of_block HX2.out).2.2).trans HX2.out)
  clear hb
  have HH3 := Lib.hid (And.intro h1 (And.intro h2 h3))
  clear h1 h2 h3
  go_wp2_with fail
  refine (Leave_any (h) _ _ _ _ HH3.out.1 HH3.out.2.1 HH3.out.2.2).mono ?_
  rintro e W4 ⟨v, rfl, hv, hb⟩
  rw [HF.out.1]
  rw [HL.out.1] at hv
  obtain ⟨o4, k4, rfl⟩ := hv.open
  clear hv
  (try clear hc1 hs1 hc2 hs2)
  have HD4 := Lib.hid hb
  have HB4 := Lib.hid (bgo HB3.out hb)
  obtain ⟨hc1, _, hs1⟩ := cells_of_block ((HB4.out.block _ (cells_of_block HX1.out).2.2).trans HX1.out)
  obtain ⟨hc2, _, hs2⟩ := cells_of_block ((HB4.out.block _ (cells_of_block HX2.out).2.2).trans HX2.out)
  clear hb
  go_wp2_with fail
  refine (Heap_any (moreH h (mh, ms, me)) _ _ _ _ (HW0.out.below HB4.out (Nat.le_refl _)) (HT0.out.below HB4.out (Nat.le_refl _)) (HXR0.out.below HB4.out (Nat.le_refl _)) (by show h.wet.length ≤ 1000; omega) (by show h.turns.length ≤ 1000; omega) (Nat.le_trans (show (moreH h (mh, ms, me)).readings.length ≤ 5 from HXL.out) (by omega))).mono ?_
  rintro e W5 ⟨a5, b5, c5, rfl, h1, h2, h3, hb⟩
  (try clear hc1 hs1 hc2 hs2)
  have HD5 := Lib.hid hb
  have HB5 := Lib.hid (bgo HB4.out hb)
  obtain ⟨hc1, _, hs1⟩ := cells_of_block ((HB5.out.block _ (cells_of_block HX1.out).2.2).trans HX1.out)
  obtain ⟨hc2, _, hs2⟩ := cells_of_block ((HB5.out.block _ (cells_of_block HX2.out).2.2).trans HX2.out)
  clear hb
  have HH5 := Lib.hid (And.intro h1 (And.intro h2 h3))
  clear h1 h2 h3
  go_wp2_with fail
  refine (Leave_any (moreH h (mh, ms, me)) _ _ _ _ HH5.out.1 HH5.out.2.1 HH5.out.2.2).mono ?_
  rintro e W6 ⟨v, rfl, hv, hb⟩
  rw [HF.out.2]
  rw [HL.out.2] at hv
  obtain ⟨o6, k6, rfl⟩ := hv.open
  clear hv
  (try clear hc1 hs1 hc2 hs2)
  have HD6 := Lib.hid hb
  have HB6 := Lib.hid (bgo HB5.out hb)
  obtain ⟨hc1, _, hs1⟩ := cells_of_block ((HB6.out.block _ (cells_of_block HX1.out).2.2).trans HX1.out)
  obtain ⟨hc2, _, hs2⟩ := cells_of_block ((HB6.out.block _ (cells_of_block HX2.out).2.2).trans HX2.out)
  clear hb
  go_wp2_with fail
  refine (turned_any h _ _ _ bs _ hl0 hl9 hbs).mono ?_
  rintro e W7 ⟨v, rfl, hv, hb⟩
  obtain ⟨o7, k7, rfl⟩ := hv.open
  have HTU7 := Lib.hid hv
  clear hv
  (try clear hc1 hs1 hc2 hs2)
  have HD7 := Lib.hid hb
  have HB7 := Lib.hid (bgo HB6.out hb)
  obtain ⟨hc1, _, hs1⟩ := cells_of_block ((HB7.out.block _ (cells_of_block HX1.out).2.2).trans HX1.out)
  obtain ⟨hc2, _, hs2⟩ := cells_of_block ((HB7.out.block _ (cells_of_block HX2.out).2.2).trans HX2.out)
  clear hb
  go_wp2_with fail
  refine (Heap_any (h) _ _ _ _ (HW0.out.below HB7.out (Nat.le_refl _)) (HT0.out.below HB7.out (Nat.le_refl _)) (HX0.out.below HB7.out (Nat.le_refl _)) (by show h.wet.length ≤ 1000; omega) (by show h.turns.length ≤ 1000; omega) (by show h.readings.length ≤ 1000; omega)).mono ?_
  rintro e W8 ⟨a8, b8, c8, rfl, h1, h2, h3, hb⟩
  (try clear hc1 hs1 hc2 hs2)
  have HD8 := Lib.hid hb
  have HB8 := Lib.hid (bgo HB7.out hb)
  obtain ⟨hc1, _, hs1⟩ := cells_of_block ((HB8.out.block _ (cells_of_block HX1.out).2.2).trans HX1.out)
  obtain ⟨hc2, _, hs2⟩ := cells_of_block ((HB8.out.block _ (cells_of_block HX2.out).2.2).trans HX2.out)
  clear hb
  have HH8 := Lib.hid (And.intro h1 (And.intro h2 h3))
  clear h1 h2 h3
  go_wp2_with fail
  have HTU8 := Lib.hid (SlAt.below HTU7.out HD8.out (Nat.le_refl _))
  refine (list_any (turnedL h bs) _ _ (HTU8.out) (by omega)).mono ?_
  rintro e W9 ⟨v, rfl, ho, hb⟩
  obtain ⟨o9, k9, rfl⟩ := owns_slice ho
  have HV9 := Lib.hid (SlAt.of_owns ho)
  clear ho
  (try clear hc1 hs1 hc2 hs2)
  have HD9 := Lib.hid hb
  have HB9 := Lib.hid (bgo HB8.out hb)
  obtain ⟨hc1, _, hs1⟩ := cells_of_block ((HB9.out.block _ (cells_of_block HX1.out).2.2).trans HX1.out)
  obtain ⟨hc2, _, hs2⟩ := cells_of_block ((HB9.out.block _ (cells_of_block HX2.out).2.2).trans HX2.out)
  clear hb
  go_wp2_with fail
  have HTU9 := Lib.hid (SlAt.below HTU8.out HD9.out (Nat.le_refl _))
  refine (Bounds_any (h) _ _ _ _ (turnedL h bs) _ (HH8.out.1.below HD9.out (Nat.le_refl _)) (HH8.out.2.1.below HD9.out (Nat.le_refl _)) (HH8.out.2.2.below HD9.out (Nat.le_refl _)) HV9.out).mono ?_
  rintro e W10 ⟨v, rfl, hv, hb⟩
  rw [HP.out.2.1]
  rw [HP.out.2.2.2.1] at hv
  obtain ⟨o10, k10, rfl⟩ := SlAt.open hv
  have HV10 := Lib.hid hv
  clear hv
  (try clear hc1 hs1 hc2 hs2)
  have HD10 := Lib.hid hb
  have HB10 := Lib.hid (bgo HB9.out hb)
  obtain ⟨hc1, _, hs1⟩ := cells_of_block ((HB10.out.block _ (cells_of_block HX1.out).2.2).trans HX1.out)
  obtain ⟨hc2, _, hs2⟩ := cells_of_block ((HB10.out.block _ (cells_of_block HX2.out).2.2).trans HX2.out)
  clear hb
  go_wp2_with fail
  have HTU10 := Lib.hid (SlAt.below HTU9.out HD10.out (Nat.le_refl _))
  refine (Heap_any (moreH h (mh, ms, me)) _ _ _ _ (HW0.out.below HB10.out (Nat.le_refl _)) (HT0.out.below HB10.out (Nat.le_refl _)) (HXR0.out.below HB10.out (Nat.le_refl _)) (by show h.wet.length ≤ 1000; omega) (by show h.turns.length ≤ 1000; omega) (Nat.le_trans (show (moreH h (mh, ms, me)).readings.length ≤ 5 from HXL.out) (by omega))).mono ?_
  rintro e W11 ⟨a11, b11, c11, rfl, h1, h2, h3, hb⟩
  (try clear hc1 hs1 hc2 hs2)
  have HD11 := Lib.hid hb
  have HB11 := Lib.hid (bgo HB10.out hb)
  obtain ⟨hc1, _, hs1⟩ := cells_of_block ((HB11.out.block _ (cells_of_block HX1.out).2.2).trans HX1.out)
  obtain ⟨hc2, _, hs2⟩ := cells_of_block ((HB11.out.block _ (cells_of_block HX2.out).2.2).trans HX2.out)
  clear hb
  have HH11 := Lib.hid (And.intro h1 (And.intro h2 h3))
  clear h1 h2 h3
  go_wp2_with fail
  have HTU11 := Lib.hid (SlAt.below HTU10.out HD11.out (Nat.le_refl _))
  refine (list_any (turnedL h bs) _ _ (HTU11.out) (by omega)).mono ?_
  rintro e W12 ⟨v, rfl, ho, hb⟩
  obtain ⟨o12, k12, rfl⟩ := owns_slice ho
  have HV12 := Lib.hid (SlAt.of_owns ho)
  clear ho
  (try clear hc1 hs1 hc2 hs2)
  have HD12 := Lib.hid hb
  have HB12 := Lib.hid (bgo HB11.out hb)
  obtain ⟨hc1, _, hs1⟩ := cells_of_block ((HB12.out.block _ (cells_of_block HX1.out).2.2).trans HX1.out)
  obtain ⟨hc2, _, hs2⟩ := cells_of_block ((HB12.out.block _ (cells_of_block HX2.out).2.2).trans HX2.out)
  clear hb
  go_wp2_with fail
  have HTU12 := Lib.hid (SlAt.below HTU11.out HD12.out (Nat.le_refl _))
  refine (Bounds_any (moreH h (mh, ms, me)) _ _ _ _ (turnedL h bs) _ (HH11.out.1.below HD12.out (Nat.le_refl _)) (HH11.out.2.1.below HD12.out (Nat.le_refl _)) (HH11.out.2.2.below HD12.out (Nat.le_refl _)) HV12.out).mono ?_
  rintro e W13 ⟨v, rfl, hv, hb⟩
  rw [HP.out.1]
  rw [HP.out.2.2.2.2.1] at hv
  obtain ⟨o13, k13, rfl⟩ := SlAt.open hv
  have HV13 := Lib.hid hv
  clear hv
  (try clear hc1 hs1 hc2 hs2)
  have HD13 := Lib.hid hb
  have HB13 := Lib.hid (bgo HB12.out hb)
  obtain ⟨hc1, _, hs1⟩ := cells_of_block ((HB13.out.block _ (cells_of_block HX1.out).2.2).trans HX1.out)
  obtain ⟨hc2, _, hs2⟩ := cells_of_block ((HB13.out.block _ (cells_of_block HX2.out).2.2).trans HX2.out)
  clear hb
  go_wp2_with fail
  have HTU13 := Lib.hid (SlAt.below HTU12.out HD13.out (Nat.le_refl _))
  refine (Heap_any (h) _ _ _ _ (HW0.out.below HB13.out (Nat.le_refl _)) (HT0.out.below HB13.out (Nat.le_refl _)) (HX0.out.below HB13.out (Nat.le_refl _)) (by show h.wet.length ≤ 1000; omega) (by show h.turns.length ≤ 1000; omega) (by show h.readings.length ≤ 1000; omega)).mono ?_
  rintro e W14 ⟨a14, b14, c14, rfl, h1, h2, h3, hb⟩
  (try clear hc1 hs1 hc2 hs2)
  have HD14 := Lib.hid hb
  have HB14 := Lib.hid (bgo HB13.out hb)
  obtain ⟨hc1, _, hs1⟩ := cells_of_block ((HB14.out.block _ (cells_of_block HX1.out).2.2).trans HX1.out)
  obtain ⟨hc2, _, hs2⟩ := cells_of_block ((HB14.out.block _ (cells_of_block HX2.out).2.2).trans HX2.out)
  clear hb
  have HH14 := Lib.hid (And.intro h1 (And.intro h2 h3))
  clear h1 h2 h3
  go_wp2_with fail
  have HTU14 := Lib.hid (SlAt.below HTU13.out HD14.out (Nat.le_refl _))
  refine (list_any (turnedL h bs) _ _ (HTU14.out) (by omega)).mono ?_
  rintro e W15 ⟨v, rfl, ho, hb⟩
  obtain ⟨o15, k15, rfl⟩ := owns_slice ho
  have HV15 := Lib.hid (SlAt.of_owns ho)
  clear ho
  (try clear hc1 hs1 hc2 hs2)
  have HD15 := Lib.hid hb
  have HB15 := Lib.hid (bgo HB14.out hb)
  obtain ⟨hc1, _, hs1⟩ := cells_of_block ((HB15.out.block _ (cells_of_block HX1.out).2.2).trans HX1.out)
  obtain ⟨hc2, _, hs2⟩ := cells_of_block ((HB15.out.block _ (cells_of_block HX2.out).2.2).trans HX2.out)
  clear hb
  go_wp2_with fail
  have HTU15 := Lib.hid (SlAt.below HTU14.out HD15.out (Nat.le_refl _))
  refine (Keeps_any (h) _ _ _ _ (turnedL h bs) _ (HH14.out.1.below HD15.out (Nat.le_refl _)) (HH14.out.2.1.below HD15.out (Nat.le_refl _)) (HH14.out.2.2.below HD15.out (Nat.le_refl _)) HV15.out).mono ?_
  rintro e W16 ⟨rfl, hb⟩
  rw [HP.out.2.1, HP.out.2.2.2.2.2.1]
  (try clear hc1 hs1 hc2 hs2)
  have HD16 := Lib.hid hb
  have HB16 := Lib.hid (bgo HB15.out hb)
  obtain ⟨hc1, _, hs1⟩ := cells_of_block ((HB16.out.block _ (cells_of_block HX1.out).2.2).trans HX1.out)
  obtain ⟨hc2, _, hs2⟩ := cells_of_block ((HB16.out.block _ (cells_of_block HX2.out).2.2).trans HX2.out)
  clear hb
  go_wp2_with fail
  have HTU16 := Lib.hid (SlAt.below HTU15.out HD16.out (Nat.le_refl _))
  refine (Heap_any (moreH h (mh, ms, me)) _ _ _ _ (HW0.out.below HB16.out (Nat.le_refl _)) (HT0.out.below HB16.out (Nat.le_refl _)) (HXR0.out.below HB16.out (Nat.le_refl _)) (by show h.wet.length ≤ 1000; omega) (by show h.turns.length ≤ 1000; omega) (Nat.le_trans (show (moreH h (mh, ms, me)).readings.length ≤ 5 from HXL.out) (by omega))).mono ?_
  rintro e W17 ⟨a17, b17, c17, rfl, h1, h2, h3, hb⟩
  (try clear hc1 hs1 hc2 hs2)
  have HD17 := Lib.hid hb
  have HB17 := Lib.hid (bgo HB16.out hb)
  obtain ⟨hc1, _, hs1⟩ := cells_of_block ((HB17.out.block _ (cells_of_block HX1.out).2.2).trans HX1.out)
  obtain ⟨hc2, _, hs2⟩ := cells_of_block ((HB17.out.block _ (cells_of_block HX2.out).2.2).trans HX2.out)
  clear hb
  have HH17 := Lib.hid (And.intro h1 (And.intro h2 h3))
  clear h1 h2 h3
  go_wp2_with fail
  have HTU17 := Lib.hid (SlAt.below HTU16.out HD17.out (Nat.le_refl _))
  refine (list_any (turnedL h bs) _ _ (HTU17.out) (by omega)).mono ?_
  rintro e W18 ⟨v, rfl, ho, hb⟩
  obtain ⟨o18, k18, rfl⟩ := owns_slice ho
  have HV18 := Lib.hid (SlAt.of_owns ho)
  clear ho
  (try clear hc1 hs1 hc2 hs2)
  have HD18 := Lib.hid hb
  have HB18 := Lib.hid (bgo HB17.out hb)
  obtain ⟨hc1, _, hs1⟩ := cells_of_block ((HB18.out.block _ (cells_of_block HX1.out).2.2).trans HX1.out)
  obtain ⟨hc2, _, hs2⟩ := cells_of_block ((HB18.out.block _ (cells_of_block HX2.out).2.2).trans HX2.out)
  clear hb
  go_wp2_with fail
  have HTU18 := Lib.hid (SlAt.below HTU17.out HD18.out (Nat.le_refl _))
  refine (Keeps_any (moreH h (mh, ms, me)) _ _ _ _ (turnedL h bs) _ (HH17.out.1.below HD18.out (Nat.le_refl _)) (HH17.out.2.1.below HD18.out (Nat.le_refl _)) (HH17.out.2.2.below HD18.out (Nat.le_refl _)) HV18.out).mono ?_
  rintro e W19 ⟨rfl, hb⟩
  rw [HP.out.1, HP.out.2.2.2.2.2.2.1]
  (try clear hc1 hs1 hc2 hs2)
  have HD19 := Lib.hid hb
  have HB19 := Lib.hid (bgo HB18.out hb)
  obtain ⟨hc1, _, hs1⟩ := cells_of_block ((HB19.out.block _ (cells_of_block HX1.out).2.2).trans HX1.out)
  obtain ⟨hc2, _, hs2⟩ := cells_of_block ((HB19.out.block _ (cells_of_block HX2.out).2.2).trans HX2.out)
  clear hb
  go_wp2_with fail
  refine wp_region_rg 6 [] none [(1, Spec.val (iv n1)), (3, Spec.val (iv n2))] (by kernel_rfl) (by kernel_rfl) ?_
  simp only [List.take_succ_cons, List.take_zero, List.drop_succ_cons, List.drop_zero]
  repeat (first | (refine tree_det (by rfl) _ (by rfl) (fun W hW => by go_simp; try rfl) ?_; simp only [Act.put, List.setIfInBounds_toArray, List.set_cons_succ, List.set_cons_zero]) | (refine tree_skip (by rfl) (by rfl) ?_; simp only [Act.put, List.setIfInBounds_toArray, List.set_cons_succ, List.set_cons_zero]))
  refine tree_val _ (by rfl) (by rfl) 44 _ (fun W hW => by go_simp; try rfl) (fun W hE hF => by exact by have := needed_any h _ _ _ W (SlAt.below (HW0.out.below HB19.out (Nat.le_refl _)) (Ext.below (show Ext [] W19 W from hE)) (Nat.le_refl _)) (SlAt.below (HT0.out.below HB19.out (Nat.le_refl _)) (Ext.below (show Ext [] W19 W from hE)) (Nat.le_refl _)) (SlAt.below (HX0.out.below HB19.out (Nat.le_refl _)) (Ext.below (show Ext [] W19 W from hE)) (Nat.le_refl _)) (by omega) (by omega) (by omega); rw [HP.out.2.2.2.2.2.2.2.1] at this; exact this) ?_
  simp only [Act.put, List.setIfInBounds_toArray, List.set_cons_succ, List.set_cons_zero]
  repeat (first | (refine tree_det (by rfl) _ (by rfl) (fun W hW => by go_simp; try rfl) ?_; simp only [Act.put, List.setIfInBounds_toArray, List.set_cons_succ, List.set_cons_zero]) | (refine tree_skip (by rfl) (by rfl) ?_; simp only [Act.put, List.setIfInBounds_toArray, List.set_cons_succ, List.set_cons_zero]))
  refine tree_val _ (by rfl) (by rfl) 44 _ (fun W hW => by go_simp; try rfl) (fun W hE hF => by exact by have := needed_any (moreH h (mh, ms, me)) _ _ _ W (SlAt.below (HW0.out.below HB19.out (Nat.le_refl _)) (Ext.below (show Ext [] W19 W from hE)) (Nat.le_refl _)) (SlAt.below (HT0.out.below HB19.out (Nat.le_refl _)) (Ext.below (show Ext [] W19 W from hE)) (Nat.le_refl _)) (SlAt.below (HXR0.out.below HB19.out (Nat.le_refl _)) (Ext.below (show Ext [] W19 W from hE)) (Nat.le_refl _)) (by show h.wet.length ≤ 1000; omega) (by show h.turns.length ≤ 1000; omega) (Nat.le_trans (show (moreH h (mh, ms, me)).readings.length ≤ 5 from HXL.out) (by omega)); rw [HP.out.2.2.2.2.2.2.2.2] at this; exact this) ?_
  simp only [Act.put, List.setIfInBounds_toArray, List.set_cons_succ, List.set_cons_zero]
  repeat (first | (refine tree_det (by rfl) _ (by rfl) (fun W hW => by go_simp; try rfl) ?_; simp only [Act.put, List.setIfInBounds_toArray, List.set_cons_succ, List.set_cons_zero]) | (refine tree_skip (by rfl) (by rfl) ?_; simp only [Act.put, List.setIfInBounds_toArray, List.set_cons_succ, List.set_cons_zero]))
  intro W20 hE hF
  have hb := Ext.below (show Ext [] W19 W20 from hE)
  (try clear hc1 hs1 hc2 hs2)
  have HD20 := Lib.hid hb
  have HB20 := Lib.hid (bgo HB19.out hb)
  obtain ⟨hc1, _, hs1⟩ := cells_of_block ((HB20.out.block _ (cells_of_block HX1.out).2.2).trans HX1.out)
  obtain ⟨hc2, _, hs2⟩ := cells_of_block ((HB20.out.block _ (cells_of_block HX2.out).2.2).trans HX2.out)
  clear hb
  clear hE hF
  go_wp2_with fail
  have HN := narrower_any B2 B1 (.slice o13 B2.length k13) (.slice o10 B1.length k10) W20
    (SlAt.below (SlAt.below (SlAt.below (SlAt.below (SlAt.below (SlAt.below (SlAt.below HV13.out HD14.out (Nat.le_refl _)) HD15.out (Nat.le_refl _)) HD16.out (Nat.le_refl _)) HD17.out (Nat.le_refl _)) HD18.out (Nat.le_refl _)) HD19.out (Nat.le_refl _)) HD20.out (Nat.le_refl _))
    (SlAt.below (SlAt.below (SlAt.below (SlAt.below (SlAt.below (SlAt.below (SlAt.below (SlAt.below (SlAt.below (SlAt.below HV10.out HD11.out (Nat.le_refl _)) HD12.out (Nat.le_refl _)) HD13.out (Nat.le_refl _)) HD14.out (Nat.le_refl _)) HD15.out (Nat.le_refl _)) HD16.out (Nat.le_refl _)) HD17.out (Nat.le_refl _)) HD18.out (Nat.le_refl _)) HD19.out (Nat.le_refl _)) HD20.out (Nat.le_refl _))
  rw [HP.out.2.2.1] at HN
  refine HN.mono ?_
  clear HN
  rintro e W21 ⟨rfl, hb⟩
  (try clear hc1 hs1 hc2 hs2)
  have HD21 := Lib.hid hb
  have HB21 := Lib.hid (bgo HB20.out hb)
  obtain ⟨hc1, _, hs1⟩ := cells_of_block ((HB21.out.block _ (cells_of_block HX1.out).2.2).trans HX1.out)
  obtain ⟨hc2, _, hs2⟩ := cells_of_block ((HB21.out.block _ (cells_of_block HX2.out).2.2).trans HX2.out)
  clear hb
  rcases q1 with q1 | ⟨q1, q2⟩
  · go_wp2_with fail
    refine (awake_any _).mono ?_
    rintro e W22 ⟨rfl, hb⟩
    (try clear hc1 hs1 hc2 hs2)
    have HD22 := Lib.hid hb
    have HB22 := Lib.hid (bgo HB21.out hb)
    obtain ⟨hc1, _, hs1⟩ := cells_of_block ((HB22.out.block _ (cells_of_block HX1.out).2.2).trans HX1.out)
    obtain ⟨hc2, _, hs2⟩ := cells_of_block ((HB22.out.block _ (cells_of_block HX2.out).2.2).trans HX2.out)
    clear hb
    go_wp2_with fail
    go_returns
    exact ⟨by simp, bgo HBB.out HB22.out⟩
  · go_wp2_with fail
    refine (awake_any _).mono ?_
    rintro e W22 ⟨rfl, hb⟩
    (try clear hc1 hs1 hc2 hs2)
    have HD22 := Lib.hid hb
    have HB22 := Lib.hid (bgo HB21.out hb)
    obtain ⟨hc1, _, hs1⟩ := cells_of_block ((HB22.out.block _ (cells_of_block HX1.out).2.2).trans HX1.out)
    obtain ⟨hc2, _, hs2⟩ := cells_of_block ((HB22.out.block _ (cells_of_block HX2.out).2.2).trans HX2.out)
    clear hb
    go_wp2_with fail
    go_returns
    exact ⟨by simp, bgo HBB.out HB22.out⟩

end Go.Proofs.Ytoibfafmnaooaaa
