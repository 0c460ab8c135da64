/-
  The walk of CouchStill: whatever the heap and the turnings by bits, it returns true; nothing that was there has turned.
-/
import Derived.WalkKit
import Derived.WalkLawsBesides
import Derived.WalkSpells
import Derived.Outline
import Derived.Handy
import Derived.KernelRfl
import Derived.Lib.Hide
import Derived.Test.YtoibfafmnaooaaaR7
namespace Go.Proofs.Ytoibfafmnaooaaa
open Go.RowKit Go.RG Go.SL Go.Shelf Cou
set_option maxHeartbeats 400000
set_option maxRecDepth 10000

theorem gcalls {P : Program} {f : FuncId} {args : Array Value} {R : Ending → World → Prop} {W : World} (h : ∀ W', W' = W → Calls P f args W' R) : Calls P f args W R := h W rfl

def stillH (h : HeapD) : HeapD := { h with cool := 0 }

set_option maxHeartbeats 1600000 in
theorem CouchStill_any (h : HeapD) (wv tv xv' : Value) (bs : Nat) (w : World) (hw : PairsAt w wv h.wet) (ht : IntsAt w tv h.turns) (hx : TriplesAt w xv' h.readings) (hbs : (bs : Int) ≤ 65535) :
    Calls Try.prog 13 #[hv h wv tv xv', .int .u16 bs] w (PV (.bool true) w) := by
  obtain ⟨ow, cw, rfl⟩ := hw.open
  obtain ⟨ot, ct, rfl⟩ := ht.open
  obtain ⟨ox, cx, rfl⟩ := hx.open
  have HW := Lib.hid hw
  have HT := Lib.hid ht
  have HX := Lib.hid hx
  clear hw ht hx
  cases hr : readyB (stillH h)
  case false =>
    have HR := Lib.hid hr
    clear hr
    go_enter Try.func13, Try.ntmps13
    go_wp2_with fail
    refine gcalls fun B0 hB0 => ?_
    have HBB := Lib.hid (show Below w.heap.size w B0 from by rw [hB0]; exact (by repeat (first | exact Below.refl _ _ | assumption | refine bgo ?_ (by assumption) | refine bgoAlloc ?_ _ | refine bgoDrew ?_ | refine bgoSet ?_ (by simp; omega) _)))
    have HX1 := Lib.hid (show B0.heap[w.heap.size]? = some (.cells #[.int .i64 h.last, .int .i64 h.size, .int .i64 h.cool, .int .i64 h.die, .int .i64 h.burn, .int .i64 h.start.1, .int .i64 h.start.2, .slice ow h.wet.length cw, .slice ot h.turns.length ct, .slice ox h.readings.length cx] 28 (0, 0)) from by rw [hB0]; exact (Below.heap_alloc _ _ _ (by first | omega | (simp; done) | (simp; omega))).trans (heap_new0 _ _))
    have HX2 := Lib.hid (show B0.heap[w.heap.size + 1]? = some (.cells #[.int .i64 h.last, .int .i64 h.size, .int .i64 0, .int .i64 h.die, .int .i64 h.burn, .int .i64 h.start.1, .int .i64 h.start.2, .slice ow h.wet.length cw, .slice ot h.turns.length ct, .slice ox h.readings.length cx] 28 (0, 0)) from by rw [hB0]; exact heap_new1 _ _ _)
    have HW0 := Lib.hid (HW.out.below HBB.out (Nat.le_refl _))
    have HT0 := Lib.hid (HT.out.below HBB.out (Nat.le_refl _))
    have HX0 := Lib.hid (HX.out.below HBB.out (Nat.le_refl _))
    have HB0 := Lib.hid (Below.refl B0.heap.size B0)
    clear hB0
    refine (ready_any (stillH h) _ _ _ _ (HW0.out.below HB0.out (Nat.le_refl _)) (HT0.out.below HB0.out (Nat.le_refl _)) (HX0.out.below HB0.out (Nat.le_refl _))).mono ?_
    rw [HR.out]
    rintro e W1 ⟨rfl, hb⟩
    (try clear hc1 hs1 hc2 hs2)
    have HD1 := Lib.hid hb
    have HB1 := Lib.hid (bgo HB0.out hb)
    obtain ⟨hc1, _, hs1⟩ := cells_of_block ((HB1.out.block _ (cells_of_block HX1.out).2.2).trans HX1.out)
    obtain ⟨hc2, _, hs2⟩ := cells_of_block ((HB1.out.block _ (cells_of_block HX2.out).2.2).trans HX2.out)
    clear hb
    go_wp2_with fail
    refine (awake_any _).mono ?_
    rintro e W2 ⟨rfl, hb⟩
    (try clear hc1 hs1 hc2 hs2)
    have HD2 := Lib.hid hb
    have HB2 := Lib.hid (bgo HB1.out hb)
    obtain ⟨hc1, _, hs1⟩ := cells_of_block ((HB2.out.block _ (cells_of_block HX1.out).2.2).trans HX1.out)
    obtain ⟨hc2, _, hs2⟩ := cells_of_block ((HB2.out.block _ (cells_of_block HX2.out).2.2).trans HX2.out)
    clear hb
    go_wp2_with fail
    go_returns
    exact ⟨by simp, bgo HBB.out HB2.out⟩
  case true =>
    obtain ⟨hS, hf0, _, hl12⟩ := ready_sound hr
    replace hl12 : h.turns.length ≤ 12 := hl12
    have hw10 : h.wet.length ≤ 10 := by have h1 : (h.wet.length : Int) = h.last + 1 := hS.wetLen; have h2 : h.last ≤ 9 := hS.last9; omega
    have hx5 : h.readings.length ≤ 5 := hS.rdgs
    have hl0 : 0 ≤ h.last := hS.last0
    have hl9 : h.last ≤ 9 := hS.last9
    have HP := Lib.hid (still_plain hS rfl (turned_turns (h := h) hl0 bs))
    have HR := Lib.hid hr
    clear hr hS hf0
    go_enter Try.func13, Try.ntmps13
    go_wp2_with fail
    refine gcalls fun B0 hB0 => ?_
    have HBB := Lib.hid (show Below w.heap.size w B0 from by rw [hB0]; exact (by repeat (first | exact Below.refl _ _ | assumption | refine bgo ?_ (by assumption) | refine bgoAlloc ?_ _ | refine bgoDrew ?_ | refine bgoSet ?_ (by simp; omega) _)))
    have HX1 := Lib.hid (show B0.heap[w.heap.size]? = some (.cells #[.int .i64 h.last, .int .i64 h.size, .int .i64 h.cool, .int .i64 h.die, .int .i64 h.burn, .int .i64 h.start.1, .int .i64 h.start.2, .slice ow h.wet.length cw, .slice ot h.turns.length ct, .slice ox h.readings.length cx] 28 (0, 0)) from by rw [hB0]; exact (Below.heap_alloc _ _ _ (by first | omega | (simp; done) | (simp; omega))).trans (heap_new0 _ _))
    have HX2 := Lib.hid (show B0.heap[w.heap.size + 1]? = some (.cells #[.int .i64 h.last, .int .i64 h.size, .int .i64 0, .int .i64 h.die, .int .i64 h.burn, .int .i64 h.start.1, .int .i64 h.start.2, .slice ow h.wet.length cw, .slice ot h.turns.length ct, .slice ox h.readings.length cx] 28 (0, 0)) from by rw [hB0]; exact heap_new1 _ _ _)
    have HW0 := Lib.hid (HW.out.below HBB.out (Nat.le_refl _))
    have HT0 := Lib.hid (HT.out.below HBB.out (Nat.le_refl _))
    have HX0 := Lib.hid (HX.out.below HBB.out (Nat.le_refl _))
    have HB0 := Lib.hid (Below.refl B0.heap.size B0)
    clear hB0
    refine (ready_any (stillH h) _ _ _ _ (HW0.out.below HB0.out (Nat.le_refl _)) (HT0.out.below HB0.out (Nat.le_refl _)) (HX0.out.below HB0.out (Nat.le_refl _))).mono ?_
    rw [HR.out]
    rintro e W1 ⟨rfl, hb⟩
    (try clear hc1 hs1 hc2 hs2)
    have HD1 := Lib.hid hb
    have HB1 := Lib.hid (bgo HB0.out hb)
    obtain ⟨hc1, _, hs1⟩ := cells_of_block ((HB1.out.block _ (cells_of_block HX1.out).2.2).trans HX1.out)
    obtain ⟨hc2, _, hs2⟩ := cells_of_block ((HB1.out.block _ (cells_of_block HX2.out).2.2).trans HX2.out)
    clear hb
    go_wp2_with fail
    rcases HP.out with ⟨p1, p2, p3⟩ | ⟨p1, p2, p3, p4⟩
    · have HE := Lib.hid (And.intro p1 (And.intro p2 p3))
      clear p1 p2 p3
      refine (Heap_any (stillH h) _ _ _ _ (HW0.out.below HB1.out (Nat.le_refl _)) (HT0.out.below HB1.out (Nat.le_refl _)) (HX0.out.below HB1.out (Nat.le_refl _)) (by show h.wet.length ≤ 1000; omega) (by show h.turns.length ≤ 1000; omega) (by show h.readings.length ≤ 1000; omega)).mono ?_
      rintro e W2 ⟨a2, b2, c2, rfl, h1, h2, h3, hb⟩
      (try clear hc1 hs1 hc2 hs2)
      have HD2 := Lib.hid hb
      have HB2 := Lib.hid (bgo HB1.out hb)
      obtain ⟨hc1, _, hs1⟩ := cells_of_block ((HB2.out.block _ (cells_of_block HX1.out).2.2).trans HX1.out)
      obtain ⟨hc2, _, hs2⟩ := cells_of_block ((HB2.out.block _ (cells_of_block HX2.out).2.2).trans HX2.out)
      clear hb
      have HH2 := Lib.hid (And.intro h1 (And.intro h2 h3))
      clear h1 h2 h3
      go_wp2_with fail
      refine (Bounds_any (stillH h) _ _ _ (.slice none 0 0) [] _ HH2.out.1 HH2.out.2.1 HH2.out.2.2 (ints_nil _)).mono ?_
      rintro e W3 ⟨v3, rfl, hv3, hb⟩
      obtain ⟨o3, k3, rfl⟩ := SlAt.open hv3
      rw [HE.out.1]
      (try clear hc1 hs1 hc2 hs2)
      have HD3 := Lib.hid hb
      have HB3 := Lib.hid (bgo HB2.out hb)
      obtain ⟨hc1, _, hs1⟩ := cells_of_block ((HB3.out.block _ (cells_of_block HX1.out).2.2).trans HX1.out)
      obtain ⟨hc2, _, hs2⟩ := cells_of_block ((HB3.out.block _ (cells_of_block HX2.out).2.2).trans HX2.out)
      clear hb
      clear hv3
      go_wp2_with fail
      refine wp_region_rg 11 [] none [(1, ⟨fun _ v => ∃ a b c, v = hv (stillH h) a b c, fun _ v Wx => ∃ a b c, v = hv (stillH h) a b c ∧ PairsAt Wx a (stillH h).wet ∧ IntsAt Wx b (stillH h).turns ∧ TriplesAt Wx c (stillH h).readings⟩), (4, ⟨fun _ v => ∃ o c, v = .slice o (turnedL h bs).length c, fun _ v Wx => IntsAt Wx v (turnedL h bs)⟩), (5, ⟨fun _ v => ∃ o c, v = .tuple #[.slice o (boundsOut (stillH h) (turnedL h bs)).length c, iv (11)], fun _ v Wx => ∃ o c, v = .tuple #[.slice o (boundsOut (stillH h) (turnedL h bs)).length c, iv (11)] ∧ PairsAt Wx (.slice o (boundsOut (stillH h) (turnedL h bs)).length c) (boundsOut (stillH h) (turnedL h bs))⟩)] (by kernel_rfl) (by kernel_rfl) ?_
      simp only [List.take_succ_cons, List.take_zero, List.drop_succ_cons, List.drop_zero]
      repeat (first | (refine tree_det (by rfl) _ (by rfl) (fun W hW => by go_simp; (try simp (disch := omega) only [IntWalk.i64_in]); try rfl) ?_; simp only [Act.put, List.setIfInBounds_toArray, List.set_cons_succ, List.set_cons_zero]) | (refine tree_skip (by rfl) (by rfl) ?_; simp only [Act.put, List.setIfInBounds_toArray, List.set_cons_succ, List.set_cons_zero]))
      refine tree_some _ (by rfl) (by rfl) (by exact ⟨_, undef, undef, undef, rfl⟩) (fun W hE hF => ?_) (fun v Wa Wb ho hE => ?_) (fun v hv => ?_)
      · have hE' : Ext [] W3 W := hE
        refine does_enter 21 #[hv (stillH h) (.slice ow h.wet.length cw) (.slice ot h.turns.length ct) (.slice ox h.readings.length cx)] (by go_simp; try first | rfl | exact ⟨rfl, rfl, rfl, rfl, rfl, rfl, rfl⟩) ?_
        refine (Heap_any (stillH h) _ _ _ W ((HW0.out.below HB3.out (Nat.le_refl _)).below hE'.below (Nat.le_refl _)) ((HT0.out.below HB3.out (Nat.le_refl _)).below hE'.below (Nat.le_refl _)) ((HX0.out.below HB3.out (Nat.le_refl _)).below hE'.below (Nat.le_refl _)) (by show h.wet.length ≤ 1000; omega) (by show h.turns.length ≤ 1000; omega) (by show h.readings.length ≤ 1000; omega)).mono ?_
        rintro e W' ⟨a, b, c, rfl, h1, h2, h3, hb⟩
        exact ⟨_, rfl, ⟨a, b, c, rfl⟩, ⟨a, b, c, rfl, h1, h2, h3⟩, Ext.of_below hb⟩
      · obtain ⟨a, b, c, hv, h1, h2, h3⟩ := ho
        have hB := Ext.below (show Ext [] Wa Wb from hE)
        exact ⟨a, b, c, hv, h1.below hB (Nat.le_refl _), h2.below hB (Nat.le_refl _), h3.below hB (Nat.le_refl _)⟩
      obtain ⟨a4, b4, c4, rfl⟩ := hv
      simp only [Act.put, List.setIfInBounds_toArray, List.set_cons_succ, List.set_cons_zero]
      repeat (first | (refine tree_det (by rfl) _ (by rfl) (fun W hW => by go_simp; (try simp (disch := omega) only [IntWalk.i64_in]); try rfl) ?_; simp only [Act.put, List.setIfInBounds_toArray, List.set_cons_succ, List.set_cons_zero]) | (refine tree_skip (by rfl) (by rfl) ?_; simp only [Act.put, List.setIfInBounds_toArray, List.set_cons_succ, List.set_cons_zero]))
      refine tree_some _ (by rfl) (by rfl) (by exact ⟨.slice none (turnedL h bs).length 0, none, 0, rfl⟩) (fun W hE hF => ?_) (fun v Wa Wb ho hE => ?_) (fun v hv => ?_)
      · refine does_enter 34 #[hv h (.slice ow h.wet.length cw) (.slice ot h.turns.length ct) (.slice ox h.readings.length cx), .int .u16 bs] (by go_simp; try rfl) ?_
        refine (turned_any h _ _ _ bs W hl0 hl9 hbs).mono ?_
        rintro e W' ⟨v, rfl, h1, hb⟩
        exact ⟨_, rfl, h1.open, h1, Ext.of_below hb⟩
      · exact SlAt.below ho (Ext.below (show Ext [] Wa Wb from hE)) (Nat.le_refl _)
      obtain ⟨o4, k4, rfl⟩ := hv
      simp only [Act.put, List.setIfInBounds_toArray, List.set_cons_succ, List.set_cons_zero]
      refine tree_some _ (by rfl) (by rfl) (by exact ⟨_, none, 0, rfl⟩) (fun W hE hF => ?_) (fun v Wa Wb ho hE => ?_) (fun v hv => ?_)
      · have htr : IntsAt W (.slice o4 (turnedL h bs).length k4) (turnedL h bs) := hF _ (List.Mem.head _) (by kernel_rfl)
        obtain ⟨a', b', c', he, h1, h2, h3⟩ := hF _ (List.Mem.tail _ (List.Mem.head _)) (by kernel_rfl)
        obtain ⟨rfl, rfl, rfl⟩ := hv_inj he
        refine does_enter 35 #[hv (stillH h) a4 b4 c4, .slice o4 (turnedL h bs).length k4] (by go_simp; try first | rfl | exact ⟨rfl, rfl, rfl, rfl, rfl, rfl, rfl⟩) ?_
        refine (Bounds_any (stillH h) _ _ _ _ (turnedL h bs) W h1 h2 h3 htr).mono ?_
        rintro e W' ⟨v, rfl, hv, hb⟩
        obtain ⟨o, k, rfl⟩ := SlAt.open hv
        rw [HE.out.2.1]
        exact ⟨_, rfl, ⟨o, k, rfl⟩, ⟨o, k, rfl, hv⟩, Ext.of_below hb⟩
      · obtain ⟨o, k, hv, h1⟩ := ho
        exact ⟨o, k, hv, h1.below (Ext.below (show Ext [] Wa Wb from hE)) (Nat.le_refl _)⟩
      obtain ⟨o5, k5, rfl⟩ := hv
      simp only [Act.put, List.setIfInBounds_toArray, List.set_cons_succ, List.set_cons_zero]
      repeat (first | (refine tree_det (by rfl) _ (by rfl) (fun W hW => by go_simp; (try simp (disch := omega) only [IntWalk.i64_in]); try rfl) ?_; simp only [Act.put, List.setIfInBounds_toArray, List.set_cons_succ, List.set_cons_zero]) | (refine tree_skip (by rfl) (by rfl) ?_; simp only [Act.put, List.setIfInBounds_toArray, List.set_cons_succ, List.set_cons_zero]))
      intro W4 hE hF
      obtain ⟨o', k', he, hv4⟩ := hF _ (List.Mem.head _)
      cases he
      have HV4 := Lib.hid hv4
      have hb := Ext.below (show Ext [] W3 W4 from hE)
      (try clear hc1 hs1 hc2 hs2)
      have HD4 := Lib.hid hb
      have HB4 := Lib.hid (bgo HB3.out hb)
      obtain ⟨hc1, _, hs1⟩ := cells_of_block ((HB4.out.block _ (cells_of_block HX1.out).2.2).trans HX1.out)
      obtain ⟨hc2, _, hs2⟩ := cells_of_block ((HB4.out.block _ (cells_of_block HX2.out).2.2).trans HX2.out)
      clear hb
      clear hE hF hv4
      go_wp2_with fail
      refine (Heap_any (stillH h) _ _ _ _ (HW0.out.below HB4.out (Nat.le_refl _)) (HT0.out.below HB4.out (Nat.le_refl _)) (HX0.out.below HB4.out (Nat.le_refl _)) (by show h.wet.length ≤ 1000; omega) (by show h.turns.length ≤ 1000; omega) (by show h.readings.length ≤ 1000; omega)).mono ?_
      rintro e W5 ⟨a5, b5, c5, rfl, h1, h2, h3, hb⟩
      (try clear hc1 hs1 hc2 hs2)
      have HD5 := Lib.hid hb
      have HB5 := Lib.hid (bgo HB4.out hb)
      obtain ⟨hc1, _, hs1⟩ := cells_of_block ((HB5.out.block _ (cells_of_block HX1.out).2.2).trans HX1.out)
      obtain ⟨hc2, _, hs2⟩ := cells_of_block ((HB5.out.block _ (cells_of_block HX2.out).2.2).trans HX2.out)
      clear hb
      have HH5 := Lib.hid (And.intro h1 (And.intro h2 h3))
      clear h1 h2 h3
      go_wp2_with fail
      refine (Fewest_any (stillH h) _ _ _ _ HH5.out.1 HH5.out.2.1 HH5.out.2.2).mono ?_
      rw [HE.out.2.2]
      rintro e W6 ⟨v6, rfl, hv6, hb⟩
      obtain ⟨o6, k6, rfl⟩ := hv6.open
      (try clear hc1 hs1 hc2 hs2)
      have HD6 := Lib.hid hb
      have HB6 := Lib.hid (bgo HB5.out hb)
      obtain ⟨hc1, _, hs1⟩ := cells_of_block ((HB6.out.block _ (cells_of_block HX1.out).2.2).trans HX1.out)
      obtain ⟨hc2, _, hs2⟩ := cells_of_block ((HB6.out.block _ (cells_of_block HX2.out).2.2).trans HX2.out)
      clear hb
      clear hv6
      go_wp2_with fail
      refine (awake_any _).mono ?_
      rintro e W7 ⟨rfl, hb⟩
      (try clear hc1 hs1 hc2 hs2)
      have HD7 := Lib.hid hb
      have HB7 := Lib.hid (bgo HB6.out hb)
      obtain ⟨hc1, _, hs1⟩ := cells_of_block ((HB7.out.block _ (cells_of_block HX1.out).2.2).trans HX1.out)
      obtain ⟨hc2, _, hs2⟩ := cells_of_block ((HB7.out.block _ (cells_of_block HX2.out).2.2).trans HX2.out)
      clear hb
      go_wp2_with fail
      go_returns
      exact ⟨by simp, bgo HBB.out HB7.out⟩
    · have HE := Lib.hid (And.intro p1 (And.intro p2 p3))
      have HN := Lib.hid (show narrowerB (boundsOut (stillH h) []) (boundsOut (stillH h) (turnedL h bs)) = true ∧ narrowerB (boundsOut (stillH h) (turnedL h bs)) (boundsOut (stillH h) []) = true from by rw [p3]; exact ⟨narrowerB_refl _, narrowerB_refl _⟩)
      have HP4 := Lib.hid p4
      clear p1 p2 p3 p4
      refine (Heap_any (stillH h) _ _ _ _ (HW0.out.below HB1.out (Nat.le_refl _)) (HT0.out.below HB1.out (Nat.le_refl _)) (HX0.out.below HB1.out (Nat.le_refl _)) (by show h.wet.length ≤ 1000; omega) (by show h.turns.length ≤ 1000; omega) (by show h.readings.length ≤ 1000; omega)).mono ?_
      rintro e W2 ⟨a2, b2, c2, rfl, h1, h2, h3, hb⟩
      (try clear hc1 hs1 hc2 hs2)
      have HD2 := Lib.hid hb
      have HB2 := Lib.hid (bgo HB1.out hb)
      obtain ⟨hc1, _, hs1⟩ := cells_of_block ((HB2.out.block _ (cells_of_block HX1.out).2.2).trans HX1.out)
      obtain ⟨hc2, _, hs2⟩ := cells_of_block ((HB2.out.block _ (cells_of_block HX2.out).2.2).trans HX2.out)
      clear hb
      have HH2 := Lib.hid (And.intro h1 (And.intro h2 h3))
      clear h1 h2 h3
      go_wp2_with fail
      refine (Bounds_any (stillH h) _ _ _ (.slice none 0 0) [] _ HH2.out.1 HH2.out.2.1 HH2.out.2.2 (ints_nil _)).mono ?_
      rintro e W3 ⟨v3, rfl, hv3, hb⟩
      obtain ⟨o3, k3, rfl⟩ := SlAt.open hv3
      rw [HE.out.1]
      (try clear hc1 hs1 hc2 hs2)
      have HD3 := Lib.hid hb
      have HB3 := Lib.hid (bgo HB2.out hb)
      obtain ⟨hc1, _, hs1⟩ := cells_of_block ((HB3.out.block _ (cells_of_block HX1.out).2.2).trans HX1.out)
      obtain ⟨hc2, _, hs2⟩ := cells_of_block ((HB3.out.block _ (cells_of_block HX2.out).2.2).trans HX2.out)
      clear hb
      have HV3 := Lib.hid hv3
      clear hv3
      go_wp2_with fail
      refine wp_region_rg 11 [] none [(1, ⟨fun _ v => ∃ a b c, v = hv (stillH h) a b c, fun _ v Wx => ∃ a b c, v = hv (stillH h) a b c ∧ PairsAt Wx a (stillH h).wet ∧ IntsAt Wx b (stillH h).turns ∧ TriplesAt Wx c (stillH h).readings⟩), (4, ⟨fun _ v => ∃ o c, v = .slice o (turnedL h bs).length c, fun _ v Wx => IntsAt Wx v (turnedL h bs)⟩), (5, ⟨fun _ v => ∃ o c, v = .tuple #[.slice o (boundsOut (stillH h) (turnedL h bs)).length c, iv (0)], fun _ v Wx => ∃ o c, v = .tuple #[.slice o (boundsOut (stillH h) (turnedL h bs)).length c, iv (0)] ∧ PairsAt Wx (.slice o (boundsOut (stillH h) (turnedL h bs)).length c) (boundsOut (stillH h) (turnedL h bs))⟩)] (by kernel_rfl) (by kernel_rfl) ?_
      simp only [List.take_succ_cons, List.take_zero, List.drop_succ_cons, List.drop_zero]
      repeat (first | (refine tree_det (by rfl) _ (by rfl) (fun W hW => by go_simp; (try simp (disch := omega) only [IntWalk.i64_in]); try rfl) ?_; simp only [Act.put, List.setIfInBounds_toArray, List.set_cons_succ, List.set_cons_zero]) | (refine tree_skip (by rfl) (by rfl) ?_; simp only [Act.put, List.setIfInBounds_toArray, List.set_cons_succ, List.set_cons_zero]))
      refine tree_some _ (by rfl) (by rfl) (by exact ⟨_, undef, undef, undef, rfl⟩) (fun W hE hF => ?_) (fun v Wa Wb ho hE => ?_) (fun v hv => ?_)
      · have hE' : Ext [] W3 W := hE
        refine does_enter 21 #[hv (stillH h) (.slice ow h.wet.length cw) (.slice ot h.turns.length ct) (.slice ox h.readings.length cx)] (by go_simp; try first | rfl | exact ⟨rfl, rfl, rfl, rfl, rfl, rfl, rfl⟩) ?_
        refine (Heap_any (stillH h) _ _ _ W ((HW0.out.below HB3.out (Nat.le_refl _)).below hE'.below (Nat.le_refl _)) ((HT0.out.below HB3.out (Nat.le_refl _)).below hE'.below (Nat.le_refl _)) ((HX0.out.below HB3.out (Nat.le_refl _)).below hE'.below (Nat.le_refl _)) (by show h.wet.length ≤ 1000; omega) (by show h.turns.length ≤ 1000; omega) (by show h.readings.length ≤ 1000; omega)).mono ?_
        rintro e W' ⟨a, b, c, rfl, h1, h2, h3, hb⟩
        exact ⟨_, rfl, ⟨a, b, c, rfl⟩, ⟨a, b, c, rfl, h1, h2, h3⟩, Ext.of_below hb⟩
      · obtain ⟨a, b, c, hv, h1, h2, h3⟩ := ho
        have hB := Ext.below (show Ext [] Wa Wb from hE)
        exact ⟨a, b, c, hv, h1.below hB (Nat.le_refl _), h2.below hB (Nat.le_refl _), h3.below hB (Nat.le_refl _)⟩
      obtain ⟨a4, b4, c4, rfl⟩ := hv
      simp only [Act.put, List.setIfInBounds_toArray, List.set_cons_succ, List.set_cons_zero]
      repeat (first | (refine tree_det (by rfl) _ (by rfl) (fun W hW => by go_simp; (try simp (disch := omega) only [IntWalk.i64_in]); try rfl) ?_; simp only [Act.put, List.setIfInBounds_toArray, List.set_cons_succ, List.set_cons_zero]) | (refine tree_skip (by rfl) (by rfl) ?_; simp only [Act.put, List.setIfInBounds_toArray, List.set_cons_succ, List.set_cons_zero]))
      refine tree_some _ (by rfl) (by rfl) (by exact ⟨.slice none (turnedL h bs).length 0, none, 0, rfl⟩) (fun W hE hF => ?_) (fun v Wa Wb ho hE => ?_) (fun v hv => ?_)
      · refine does_enter 34 #[hv h (.slice ow h.wet.length cw) (.slice ot h.turns.length ct) (.slice ox h.readings.length cx), .int .u16 bs] (by go_simp; try rfl) ?_
        refine (turned_any h _ _ _ bs W hl0 hl9 hbs).mono ?_
        rintro e W' ⟨v, rfl, h1, hb⟩
        exact ⟨_, rfl, h1.open, h1, Ext.of_below hb⟩
      · exact SlAt.below ho (Ext.below (show Ext [] Wa Wb from hE)) (Nat.le_refl _)
      obtain ⟨o4, k4, rfl⟩ := hv
      simp only [Act.put, List.setIfInBounds_toArray, List.set_cons_succ, List.set_cons_zero]
      refine tree_some _ (by rfl) (by rfl) (by exact ⟨_, none, 0, rfl⟩) (fun W hE hF => ?_) (fun v Wa Wb ho hE => ?_) (fun v hv => ?_)
      · have htr : IntsAt W (.slice o4 (turnedL h bs).length k4) (turnedL h bs) := hF _ (List.Mem.head _) (by kernel_rfl)
        obtain ⟨a', b', c', he, h1, h2, h3⟩ := hF _ (List.Mem.tail _ (List.Mem.head _)) (by kernel_rfl)
        obtain ⟨rfl, rfl, rfl⟩ := hv_inj he
        refine does_enter 35 #[hv (stillH h) a4 b4 c4, .slice o4 (turnedL h bs).length k4] (by go_simp; try first | rfl | exact ⟨rfl, rfl, rfl, rfl, rfl, rfl, rfl⟩) ?_
        refine (Bounds_any (stillH h) _ _ _ _ (turnedL h bs) W h1 h2 h3 htr).mono ?_
        rintro e W' ⟨v, rfl, hv, hb⟩
        obtain ⟨o, k, rfl⟩ := SlAt.open hv
        rw [HE.out.2.1]
        exact ⟨_, rfl, ⟨o, k, rfl⟩, ⟨o, k, rfl, hv⟩, Ext.of_below hb⟩
      · obtain ⟨o, k, hv, h1⟩ := ho
        exact ⟨o, k, hv, h1.below (Ext.below (show Ext [] Wa Wb from hE)) (Nat.le_refl _)⟩
      obtain ⟨o5, k5, rfl⟩ := hv
      simp only [Act.put, List.setIfInBounds_toArray, List.set_cons_succ, List.set_cons_zero]
      repeat (first | (refine tree_det (by rfl) _ (by rfl) (fun W hW => by go_simp; (try simp (disch := omega) only [IntWalk.i64_in]); try rfl) ?_; simp only [Act.put, List.setIfInBounds_toArray, List.set_cons_succ, List.set_cons_zero]) | (refine tree_skip (by rfl) (by rfl) ?_; simp only [Act.put, List.setIfInBounds_toArray, List.set_cons_succ, List.set_cons_zero]))
      intro W4 hE hF
      obtain ⟨o', k', he, hv4⟩ := hF _ (List.Mem.head _)
      cases he
      have HV4 := Lib.hid hv4
      have hb := Ext.below (show Ext [] W3 W4 from hE)
      (try clear hc1 hs1 hc2 hs2)
      have HD4 := Lib.hid hb
      have HB4 := Lib.hid (bgo HB3.out hb)
      obtain ⟨hc1, _, hs1⟩ := cells_of_block ((HB4.out.block _ (cells_of_block HX1.out).2.2).trans HX1.out)
      obtain ⟨hc2, _, hs2⟩ := cells_of_block ((HB4.out.block _ (cells_of_block HX2.out).2.2).trans HX2.out)
      clear hb
      clear hE hF hv4
      go_wp2_with fail
      refine (Heap_any (stillH h) _ _ _ _ (HW0.out.below HB4.out (Nat.le_refl _)) (HT0.out.below HB4.out (Nat.le_refl _)) (HX0.out.below HB4.out (Nat.le_refl _)) (by show h.wet.length ≤ 1000; omega) (by show h.turns.length ≤ 1000; omega) (by show h.readings.length ≤ 1000; omega)).mono ?_
      rintro e W5 ⟨a5, b5, c5, rfl, h1, h2, h3, hb⟩
      (try clear hc1 hs1 hc2 hs2)
      have HD5 := Lib.hid hb
      have HB5 := Lib.hid (bgo HB4.out hb)
      obtain ⟨hc1, _, hs1⟩ := cells_of_block ((HB5.out.block _ (cells_of_block HX1.out).2.2).trans HX1.out)
      obtain ⟨hc2, _, hs2⟩ := cells_of_block ((HB5.out.block _ (cells_of_block HX2.out).2.2).trans HX2.out)
      clear hb
      have HH5 := Lib.hid (And.intro h1 (And.intro h2 h3))
      clear h1 h2 h3
      go_wp2_with fail
      rcases HP4.out with ⟨q1, q2⟩ | ⟨q1, q2⟩
      · have HQ := Lib.hid (And.intro q1 q2)
        clear q1 q2
        refine (Fewest_any (stillH h) _ _ _ _ HH5.out.1 HH5.out.2.1 HH5.out.2.2).mono ?_
        rw [HQ.out.1, HQ.out.2]
        rintro e W6 ⟨v6, rfl, hv6, hb⟩
        obtain ⟨o6, k6, rfl⟩ := hv6.open
        (try clear hc1 hs1 hc2 hs2)
        have HD6 := Lib.hid hb
        have HB6 := Lib.hid (bgo HB5.out hb)
        obtain ⟨hc1, _, hs1⟩ := cells_of_block ((HB6.out.block _ (cells_of_block HX1.out).2.2).trans HX1.out)
        obtain ⟨hc2, _, hs2⟩ := cells_of_block ((HB6.out.block _ (cells_of_block HX2.out).2.2).trans HX2.out)
        clear hb
        clear hv6
        go_wp2_with fail
        refine wp_region_rg 38 [] none [(5, Spec.val (.bool true)), (10, Spec.val (.bool true)), (35, Spec.val (.bool true))] (by kernel_rfl) (by kernel_rfl) ?_
        simp only [List.take_succ_cons, List.take_zero, List.drop_succ_cons, List.drop_zero]
        repeat (first | (refine tree_det (by rfl) _ (by rfl) (fun W hW => by go_simp; (try simp (disch := omega) only [IntWalk.i64_in]); try rfl) ?_; simp only [Act.put, List.setIfInBounds_toArray, List.set_cons_succ, List.set_cons_zero]) | (refine tree_skip (by rfl) (by rfl) ?_; simp only [Act.put, List.setIfInBounds_toArray, List.set_cons_succ, List.set_cons_zero]))
        refine tree_val _ (by rfl) (by rfl) 45 _ (fun W hW => by go_simp; try rfl) (fun W hE hF => by exact by have := narrower_any (boundsOut (stillH h) []) (boundsOut (stillH h) (turnedL h bs)) _ _ W ((((HV3.out.below HD4.out (Nat.le_refl _)).below HD5.out (Nat.le_refl _)).below HD6.out (Nat.le_refl _)).below (Ext.below (show Ext [] W6 W from hE)) (Nat.le_refl _)) (((HV4.out.below HD5.out (Nat.le_refl _)).below HD6.out (Nat.le_refl _)).below (Ext.below (show Ext [] W6 W from hE)) (Nat.le_refl _)); rw [HN.out.1] at this; exact this) ?_
        simp only [Act.put, List.setIfInBounds_toArray, List.set_cons_succ, List.set_cons_zero]
        repeat (first | (refine tree_det (by rfl) _ (by rfl) (fun W hW => by go_simp; (try simp (disch := omega) only [IntWalk.i64_in]); try rfl) ?_; simp only [Act.put, List.setIfInBounds_toArray, List.set_cons_succ, List.set_cons_zero]) | (refine tree_skip (by rfl) (by rfl) ?_; simp only [Act.put, List.setIfInBounds_toArray, List.set_cons_succ, List.set_cons_zero]))
        refine tree_val _ (by rfl) (by rfl) 45 _ (fun W hW => by go_simp; try rfl) (fun W hE hF => by exact by have := narrower_any (boundsOut (stillH h) (turnedL h bs)) (boundsOut (stillH h) []) _ _ W (((HV4.out.below HD5.out (Nat.le_refl _)).below HD6.out (Nat.le_refl _)).below (Ext.below (show Ext [] W6 W from hE)) (Nat.le_refl _)) ((((HV3.out.below HD4.out (Nat.le_refl _)).below HD5.out (Nat.le_refl _)).below HD6.out (Nat.le_refl _)).below (Ext.below (show Ext [] W6 W from hE)) (Nat.le_refl _)); rw [HN.out.2] at this; exact this) ?_
        simp only [Act.put, List.setIfInBounds_toArray, List.set_cons_succ, List.set_cons_zero]
        repeat (first | (refine tree_det (by rfl) _ (by rfl) (fun W hW => by go_simp; (try simp (disch := omega) only [IntWalk.i64_in]); try rfl) ?_; simp only [Act.put, List.setIfInBounds_toArray, List.set_cons_succ, List.set_cons_zero]) | (refine tree_skip (by rfl) (by rfl) ?_; simp only [Act.put, List.setIfInBounds_toArray, List.set_cons_succ, List.set_cons_zero]))
        refine tree_val _ (by rfl) (by rfl) 19 _ (fun W hW => by go_simp; try rfl) (fun W hE hF => by exact awake_any W) ?_
        simp only [Act.put, List.setIfInBounds_toArray, List.set_cons_succ, List.set_cons_zero]
        repeat (first | (refine tree_det (by rfl) _ (by rfl) (fun W hW => by go_simp; (try simp (disch := omega) only [IntWalk.i64_in]); try rfl) ?_; simp only [Act.put, List.setIfInBounds_toArray, List.set_cons_succ, List.set_cons_zero]) | (refine tree_skip (by rfl) (by rfl) ?_; simp only [Act.put, List.setIfInBounds_toArray, List.set_cons_succ, List.set_cons_zero]))
        intro W7 hE hF
        have hb := Ext.below (show Ext [] W6 W7 from hE)
        (try clear hc1 hs1 hc2 hs2)
        have HD7 := Lib.hid hb
        have HB7 := Lib.hid (bgo HB6.out hb)
        obtain ⟨hc1, _, hs1⟩ := cells_of_block ((HB7.out.block _ (cells_of_block HX1.out).2.2).trans HX1.out)
        obtain ⟨hc2, _, hs2⟩ := cells_of_block ((HB7.out.block _ (cells_of_block HX2.out).2.2).trans HX2.out)
        clear hb
        clear hE hF
        go_wp2_with fail
        go_returns
        exact ⟨by simp, bgo HBB.out HB7.out⟩
      · have HQ := Lib.hid (And.intro q1 q2)
        clear q1 q2
        refine (Fewest_any (stillH h) _ _ _ _ HH5.out.1 HH5.out.2.1 HH5.out.2.2).mono ?_
        rw [HQ.out.1, (rfl : fewL (stillH h) = fewL (stillH h))]
        rintro e W6 ⟨v6, rfl, hv6, hb⟩
        obtain ⟨o6, k6, rfl⟩ := hv6.open
        (try clear hc1 hs1 hc2 hs2)
        have HD6 := Lib.hid hb
        have HB6 := Lib.hid (bgo HB5.out hb)
        obtain ⟨hc1, _, hs1⟩ := cells_of_block ((HB6.out.block _ (cells_of_block HX1.out).2.2).trans HX1.out)
        obtain ⟨hc2, _, hs2⟩ := cells_of_block ((HB6.out.block _ (cells_of_block HX2.out).2.2).trans HX2.out)
        clear hb
        clear hv6
        go_wp2_with fail
        refine wp_region_rg 38 [] none [(5, Spec.val (.bool true)), (10, Spec.val (.bool true)), (25, ⟨fun _ v => ∃ a b c, v = hv (stillH h) a b c, fun _ v Wx => ∃ a b c, v = hv (stillH h) a b c ∧ PairsAt Wx a (stillH h).wet ∧ IntsAt Wx b (stillH h).turns ∧ TriplesAt Wx c (stillH h).readings⟩), (28, ⟨fun _ v => ∃ o c, v = .slice o (turnedL h bs).length c, fun _ v Wx => IntsAt Wx v (turnedL h bs)⟩), (29, Spec.val (.bool false)), (35, Spec.val (.bool true))] (by kernel_rfl) (by kernel_rfl) ?_
        simp only [List.take_succ_cons, List.take_zero, List.drop_succ_cons, List.drop_zero]
        repeat (first | (refine tree_det (by rfl) _ (by rfl) (fun W hW => by go_simp; (try simp (disch := omega) only [IntWalk.i64_in]); try rfl) ?_; simp only [Act.put, List.setIfInBounds_toArray, List.set_cons_succ, List.set_cons_zero]) | (refine tree_skip (by rfl) (by rfl) ?_; simp only [Act.put, List.setIfInBounds_toArray, List.set_cons_succ, List.set_cons_zero]))
        refine tree_val _ (by rfl) (by rfl) 45 _ (fun W hW => by go_simp; try rfl) (fun W hE hF => by exact by have := narrower_any (boundsOut (stillH h) []) (boundsOut (stillH h) (turnedL h bs)) _ _ W ((((HV3.out.below HD4.out (Nat.le_refl _)).below HD5.out (Nat.le_refl _)).below HD6.out (Nat.le_refl _)).below (Ext.below (show Ext [] W6 W from hE)) (Nat.le_refl _)) (((HV4.out.below HD5.out (Nat.le_refl _)).below HD6.out (Nat.le_refl _)).below (Ext.below (show Ext [] W6 W from hE)) (Nat.le_refl _)); rw [HN.out.1] at this; exact this) ?_
        simp only [Act.put, List.setIfInBounds_toArray, List.set_cons_succ, List.set_cons_zero]
        repeat (first | (refine tree_det (by rfl) _ (by rfl) (fun W hW => by go_simp; (try simp (disch := omega) only [IntWalk.i64_in]); try rfl) ?_; simp only [Act.put, List.setIfInBounds_toArray, List.set_cons_succ, List.set_cons_zero]) | (refine tree_skip (by rfl) (by rfl) ?_; simp only [Act.put, List.setIfInBounds_toArray, List.set_cons_succ, List.set_cons_zero]))
        refine tree_val _ (by rfl) (by rfl) 45 _ (fun W hW => by go_simp; try rfl) (fun W hE hF => by exact by have := narrower_any (boundsOut (stillH h) (turnedL h bs)) (boundsOut (stillH h) []) _ _ W (((HV4.out.below HD5.out (Nat.le_refl _)).below HD6.out (Nat.le_refl _)).below (Ext.below (show Ext [] W6 W from hE)) (Nat.le_refl _)) ((((HV3.out.below HD4.out (Nat.le_refl _)).below HD5.out (Nat.le_refl _)).below HD6.out (Nat.le_refl _)).below (Ext.below (show Ext [] W6 W from hE)) (Nat.le_refl _)); rw [HN.out.2] at this; exact this) ?_
        simp only [Act.put, List.setIfInBounds_toArray, List.set_cons_succ, List.set_cons_zero]
        repeat (first | (refine tree_det (by rfl) _ (by rfl) (fun W hW => by go_simp; (try simp (disch := omega) only [IntWalk.i64_in]); try rfl) ?_; simp only [Act.put, List.setIfInBounds_toArray, List.set_cons_succ, List.set_cons_zero]) | (refine tree_skip (by rfl) (by rfl) ?_; simp only [Act.put, List.setIfInBounds_toArray, List.set_cons_succ, List.set_cons_zero]))
        refine tree_some _ (by rfl) (by rfl) (by exact ⟨_, undef, undef, undef, rfl⟩) (fun W hE hF => ?_) (fun v Wa Wb ho hE => ?_) (fun v hv => ?_)
        · have hE' : Ext [] W6 W := hE
          refine does_enter 21 #[hv (stillH h) (.slice ow h.wet.length cw) (.slice ot h.turns.length ct) (.slice ox h.readings.length cx)] (by go_simp; try first | rfl | exact ⟨rfl, rfl, rfl, rfl, rfl, rfl, rfl⟩) ?_
          refine (Heap_any (stillH h) _ _ _ W ((HW0.out.below HB6.out (Nat.le_refl _)).below hE'.below (Nat.le_refl _)) ((HT0.out.below HB6.out (Nat.le_refl _)).below hE'.below (Nat.le_refl _)) ((HX0.out.below HB6.out (Nat.le_refl _)).below hE'.below (Nat.le_refl _)) (by show h.wet.length ≤ 1000; omega) (by show h.turns.length ≤ 1000; omega) (by show h.readings.length ≤ 1000; omega)).mono ?_
          rintro e W' ⟨a, b, c, rfl, h1, h2, h3, hb⟩
          exact ⟨_, rfl, ⟨a, b, c, rfl⟩, ⟨a, b, c, rfl, h1, h2, h3⟩, Ext.of_below hb⟩
        · obtain ⟨a, b, c, hv, h1, h2, h3⟩ := ho
          have hB := Ext.below (show Ext [] Wa Wb from hE)
          exact ⟨a, b, c, hv, h1.below hB (Nat.le_refl _), h2.below hB (Nat.le_refl _), h3.below hB (Nat.le_refl _)⟩
        obtain ⟨a7, b7, c7, rfl⟩ := hv
        simp only [Act.put, List.setIfInBounds_toArray, List.set_cons_succ, List.set_cons_zero]
        repeat (first | (refine tree_det (by rfl) _ (by rfl) (fun W hW => by go_simp; (try simp (disch := omega) only [IntWalk.i64_in]); try rfl) ?_; simp only [Act.put, List.setIfInBounds_toArray, List.set_cons_succ, List.set_cons_zero]) | (refine tree_skip (by rfl) (by rfl) ?_; simp only [Act.put, List.setIfInBounds_toArray, List.set_cons_succ, List.set_cons_zero]))
        refine tree_some _ (by rfl) (by rfl) (by exact ⟨.slice none (turnedL h bs).length 0, none, 0, rfl⟩) (fun W hE hF => ?_) (fun v Wa Wb ho hE => ?_) (fun v hv => ?_)
        · refine does_enter 34 #[hv h (.slice ow h.wet.length cw) (.slice ot h.turns.length ct) (.slice ox h.readings.length cx), .int .u16 bs] (by go_simp; try rfl) ?_
          refine (turned_any h _ _ _ bs W hl0 hl9 hbs).mono ?_
          rintro e W' ⟨v, rfl, h1, hb⟩
          exact ⟨_, rfl, h1.open, h1, Ext.of_below hb⟩
        · exact SlAt.below ho (Ext.below (show Ext [] Wa Wb from hE)) (Nat.le_refl _)
        obtain ⟨o7, k7, rfl⟩ := hv
        simp only [Act.put, List.setIfInBounds_toArray, List.set_cons_succ, List.set_cons_zero]
        repeat (first | (refine tree_det (by rfl) _ (by rfl) (fun W hW => by go_simp; (try simp (disch := omega) only [IntWalk.i64_in]); try rfl) ?_; simp only [Act.put, List.setIfInBounds_toArray, List.set_cons_succ, List.set_cons_zero]) | (refine tree_skip (by rfl) (by rfl) ?_; simp only [Act.put, List.setIfInBounds_toArray, List.set_cons_succ, List.set_cons_zero]))
        refine tree_val _ (by rfl) (by rfl) 50 #[hv (stillH h) a7 b7 c7, .slice o7 (turnedL h bs).length k7] (fun W hW => by go_simp; try first | rfl | exact ⟨rfl, rfl, rfl, rfl, rfl, rfl, rfl⟩) (fun W hE hF => ?_) ?_
        · have htr : IntsAt W (.slice o7 (turnedL h bs).length k7) (turnedL h bs) := hF _ (List.Mem.head _) (by kernel_rfl)
          obtain ⟨a', b', c', he, h1, h2, h3⟩ := hF _ (List.Mem.tail _ (List.Mem.head _)) (by kernel_rfl)
          obtain ⟨rfl, rfl, rfl⟩ := hv_inj he
          have := ProveKeeps_any (stillH h) _ _ _ _ (turnedL h bs) W h1 h2 h3 htr
          rw [HQ.out.2] at this
          exact this
        simp only [Act.put, List.setIfInBounds_toArray, List.set_cons_succ, List.set_cons_zero]
        repeat (first | (refine tree_det (by rfl) _ (by rfl) (fun W hW => by go_simp; (try simp (disch := omega) only [IntWalk.i64_in]); try rfl) ?_; simp only [Act.put, List.setIfInBounds_toArray, List.set_cons_succ, List.set_cons_zero]) | (refine tree_skip (by rfl) (by rfl) ?_; simp only [Act.put, List.setIfInBounds_toArray, List.set_cons_succ, List.set_cons_zero]))
        refine tree_val _ (by rfl) (by rfl) 19 _ (fun W hW => by go_simp; try rfl) (fun W hE hF => by exact awake_any W) ?_
        simp only [Act.put, List.setIfInBounds_toArray, List.set_cons_succ, List.set_cons_zero]
        repeat (first | (refine tree_det (by rfl) _ (by rfl) (fun W hW => by go_simp; (try simp (disch := omega) only [IntWalk.i64_in]); try rfl) ?_; simp only [Act.put, List.setIfInBounds_toArray, List.set_cons_succ, List.set_cons_zero]) | (refine tree_skip (by rfl) (by rfl) ?_; simp only [Act.put, List.setIfInBounds_toArray, List.set_cons_succ, List.set_cons_zero]))
        intro W7 hE hF
        have hb := Ext.below (show Ext [] W6 W7 from hE)
        (try clear hc1 hs1 hc2 hs2)
        have HD7 := Lib.hid hb
        have HB7 := Lib.hid (bgo HB6.out hb)
        obtain ⟨hc1, _, hs1⟩ := cells_of_block ((HB7.out.block _ (cells_of_block HX1.out).2.2).trans HX1.out)
        obtain ⟨hc2, _, hs2⟩ := cells_of_block ((HB7.out.block _ (cells_of_block HX2.out).2.2).trans HX2.out)
        clear hb
        clear hE hF
        go_wp2_with fail
        go_returns
        exact ⟨by simp, bgo HBB.out HB7.out⟩

end Go.Proofs.Ytoibfafmnaooaaa
