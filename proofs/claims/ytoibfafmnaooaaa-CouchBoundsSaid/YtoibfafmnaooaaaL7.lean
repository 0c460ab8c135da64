/-
  The walk of CouchBounds: whatever the heap and the turnings, it returns true; nothing that was there has turned.
-/
import Derived.WalkKit
import Derived.WalkLawsBesides
import Derived.WalkSpells
import Derived.Outline
import Derived.Handy
import Derived.KernelRfl
import Derived.Lib.Hide
import Derived.Test.YtoibfafmnaooaaaSE
namespace Go.Proofs.Ytoibfafmnaooaaa
open Go.RowKit Go.RG Go.SL Go.Shelf Cou
set_option maxHeartbeats 400000
set_option maxRecDepth 10000

theorem thin_len7 {h : HeapD} (ht : thinB h = true) : h.wet.length ≤ 12 ∧ h.turns.length ≤ 12 ∧ h.readings.length ≤ 7 := by
  simp only [thinB, Bool.and_eq_true, decide_eq_true_eq] at ht
  exact ⟨ht.1, ht.2.1, ht.2.2.1⟩

set_option maxHeartbeats 4000000 in
theorem CouchBounds_any (h : HeapD) (wv tv xv' rv' : Value) (turns : List Int) (w : World) (hw : PairsAt w wv h.wet) (ht : IntsAt w tv h.turns) (hx : TriplesAt w xv' h.readings) (hr : IntsAt w rv' turns) :
    Calls Try.prog 12 #[hv h wv tv xv', rv'] w (PV (.bool true) w) := by
  have hlenr := hr.len
  obtain ⟨ow, cw, rfl⟩ := hw.open
  obtain ⟨ot, ct, rfl⟩ := ht.open
  obtain ⟨ox, cx, rfl⟩ := hx.open
  have HW := Lib.hid hw
  have HT := Lib.hid ht
  have HX := Lib.hid hx
  clear hw ht hx
  obtain ⟨or', cr, rfl⟩ := hr.open
  have HRT := Lib.hid hr
  clear hr
  have HB0 := Lib.hid (Below.refl (w.alloc (.cells #[.int .i64 h.last, .int .i64 h.size, .int .i64 h.cool, .int .i64 h.die, .int .i64 h.burn, .int .i64 h.start.1, .int .i64 h.start.2, .slice ow h.wet.length cw, .slice ot h.turns.length ct, .slice ox h.readings.length cx] 28)).heap.size (w.alloc (.cells #[.int .i64 h.last, .int .i64 h.size, .int .i64 h.cool, .int .i64 h.die, .int .i64 h.burn, .int .i64 h.start.1, .int .i64 h.start.2, .slice ow h.wet.length cw, .slice ot h.turns.length ct, .slice ox h.readings.length cx] 28)))
  cases hth : thinB h
  case false =>
    have HTH := Lib.hid hth
    clear hth
    go_enter Try.func12, Try.ntmps12
    go_wp2_with fail
    refine (Thin_any h _ _ _ _ ((HW.out.alloc _).below HB0.out (Nat.le_refl _)) ((HT.out.alloc _).below HB0.out (Nat.le_refl _)) ((HX.out.alloc _).below HB0.out (Nat.le_refl _))).mono ?_
    rw [HTH.out]
    rintro e W1 ⟨rfl, hb⟩
    (try clear hcr hsr)
    have HD1 := Lib.hid hb
    have HB1 := Lib.hid (bgo HB0.out hb)
    obtain ⟨hcr, _, hsr⟩ := cells_of_block ((HB1.out.block w.heap.size (by simp)).trans (heap_new0 w _))
    clear hb
    go_wp2_with fail
    refine (awake_any _).mono ?_
    rintro e W2 ⟨rfl, hb⟩
    (try clear hcr hsr)
    have HD2 := Lib.hid hb
    have HB2 := Lib.hid (bgo HB1.out hb)
    obtain ⟨hcr, _, hsr⟩ := cells_of_block ((HB2.out.block w.heap.size (by simp)).trans (heap_new0 w _))
    clear hb
    go_wp2_with fail
    go_returns
    exact ⟨by simp, bgo (bgoAlloc (Below.refl _ _) _) HB2.out⟩
  obtain ⟨hlw, hlt, hlx⟩ := thin_len7 hth
  have HTH := Lib.hid hth
  clear hth
  by_cases hr14 : (14 : Int) < turns.length
  case pos =>
    go_enter Try.func12, Try.ntmps12
    go_wp2_with fail
    refine (Thin_any h _ _ _ _ ((HW.out.alloc _).below HB0.out (Nat.le_refl _)) ((HT.out.alloc _).below HB0.out (Nat.le_refl _)) ((HX.out.alloc _).below HB0.out (Nat.le_refl _))).mono ?_
    rw [HTH.out]
    rintro e W1 ⟨rfl, hb⟩
    (try clear hcr hsr)
    have HD1 := Lib.hid hb
    have HB1 := Lib.hid (bgo HB0.out hb)
    obtain ⟨hcr, _, hsr⟩ := cells_of_block ((HB1.out.block w.heap.size (by simp)).trans (heap_new0 w _))
    clear hb
    go_wp2_with fail
    refine (awake_any _).mono ?_
    rintro e W2 ⟨rfl, hb⟩
    (try clear hcr hsr)
    have HD2 := Lib.hid hb
    have HB2 := Lib.hid (bgo HB1.out hb)
    obtain ⟨hcr, _, hsr⟩ := cells_of_block ((HB2.out.block w.heap.size (by simp)).trans (heap_new0 w _))
    clear hb
    go_wp2_with fail
    go_returns
    exact ⟨by simp, bgo (bgoAlloc (Below.refl _ _) _) HB2.out⟩
  obtain ⟨f, hf⟩ : ∃ f, fault h = f := ⟨_, rfl⟩
  obtain ⟨s, hs⟩ : ∃ s, sureE h = s := ⟨_, rfl⟩
  have HF := Lib.hid hf
  have HSU := Lib.hid hs
  by_cases hf0 : f = 0
  case neg =>
    have ha : askErr h turns = f := by unfold askErr; rw [if_pos (by rw [hf]; exact hf0), hf]
    have HAB := Lib.hid (ask_bad ha hf0)
    obtain rfl : s = f := by rw [← hs]; unfold sureE; rw [if_pos (by rw [hf]; exact hf0), hf]
    have hfn : (s != 0) = true := by simpa using hf0
    have hfe : (s == 0) = false := by simpa using hf0
    clear hf hs ha hf0
    go_enter Try.func12, Try.ntmps12
    go_wp2_with fail
    refine (Thin_any h _ _ _ _ ((HW.out.alloc _).below HB0.out (Nat.le_refl _)) ((HT.out.alloc _).below HB0.out (Nat.le_refl _)) ((HX.out.alloc _).below HB0.out (Nat.le_refl _))).mono ?_
    rw [HTH.out]
    rintro e W1 ⟨rfl, hb⟩
    (try clear hcr hsr)
    have HD1 := Lib.hid hb
    have HB1 := Lib.hid (bgo HB0.out hb)
    obtain ⟨hcr, _, hsr⟩ := cells_of_block ((HB1.out.block w.heap.size (by simp)).trans (heap_new0 w _))
    clear hb
    go_wp2_with fail
    refine (Heap_any h _ _ _ _ ((HW.out.alloc _).below HB1.out (Nat.le_refl _)) ((HT.out.alloc _).below HB1.out (Nat.le_refl _)) ((HX.out.alloc _).below HB1.out (Nat.le_refl _)) (by omega) (by omega) (by omega)).mono ?_
    rintro e W2 ⟨a2, b2, c2, rfl, h1, h2, h3, hb⟩
    (try clear hcr hsr)
    have HD2 := Lib.hid hb
    have HB2 := Lib.hid (bgo HB1.out hb)
    obtain ⟨hcr, _, hsr⟩ := cells_of_block ((HB2.out.block w.heap.size (by simp)).trans (heap_new0 w _))
    clear hb
    have HH2 := Lib.hid (And.intro h1 (And.intro h2 h3))
    clear h1 h2 h3
    go_wp2_with fail
    refine (list_any turns _ _ ((HRT.out.alloc _).below HB2.out (Nat.le_refl _)) (by omega)).mono ?_
    rintro e W3 ⟨v, rfl, ho, hb⟩
    obtain ⟨o3, c3, rfl⟩ := owns_slice ho
    have HV3 := Lib.hid (SlAt.of_owns ho)
    clear ho
    (try clear hcr hsr)
    have HD3 := Lib.hid hb
    have HB3 := Lib.hid (bgo HB2.out hb)
    obtain ⟨hcr, _, hsr⟩ := cells_of_block ((HB3.out.block w.heap.size (by simp)).trans (heap_new0 w _))
    clear hb
    go_wp2_with fail
    refine (Bounds_any h _ _ _ _ turns _ (HH2.out.1.below HD3.out (Nat.le_refl _)) (HH2.out.2.1.below HD3.out (Nat.le_refl _)) (HH2.out.2.2.below HD3.out (Nat.le_refl _)) HV3.out).mono ?_
    rintro e W4 ⟨v, rfl, hv, hb⟩
    rw [HAB.out.1]
    rw [HAB.out.2.1] at hv
    obtain ⟨o4, c4, rfl⟩ := SlAt.open hv
    have HV4 := Lib.hid hv
    clear hv
    (try clear hcr hsr)
    have HD4 := Lib.hid hb
    have HB4 := Lib.hid (bgo HB3.out hb)
    obtain ⟨hcr, _, hsr⟩ := cells_of_block ((HB4.out.block w.heap.size (by simp)).trans (heap_new0 w _))
    clear hb
    go_wp2_with fail
    refine (Heap_any h _ _ _ _ ((HW.out.alloc _).below HB4.out (Nat.le_refl _)) ((HT.out.alloc _).below HB4.out (Nat.le_refl _)) ((HX.out.alloc _).below HB4.out (Nat.le_refl _)) (by omega) (by omega) (by omega)).mono ?_
    rintro e W5 ⟨a5, b5, c5, rfl, h1, h2, h3, hb⟩
    (try clear hcr hsr)
    have HD5 := Lib.hid hb
    have HB5 := Lib.hid (bgo HB4.out hb)
    obtain ⟨hcr, _, hsr⟩ := cells_of_block ((HB5.out.block w.heap.size (by simp)).trans (heap_new0 w _))
    clear hb
    have HH5 := Lib.hid (And.intro h1 (And.intro h2 h3))
    clear h1 h2 h3
    go_wp2_with fail
    refine (list_any turns _ _ ((HRT.out.alloc _).below HB5.out (Nat.le_refl _)) (by omega)).mono ?_
    rintro e W6 ⟨v, rfl, ho, hb⟩
    obtain ⟨o6, c6, rfl⟩ := owns_slice ho
    have HV6 := Lib.hid (SlAt.of_owns ho)
    clear ho
    (try clear hcr hsr)
    have HD6 := Lib.hid hb
    have HB6 := Lib.hid (bgo HB5.out hb)
    obtain ⟨hcr, _, hsr⟩ := cells_of_block ((HB6.out.block w.heap.size (by simp)).trans (heap_new0 w _))
    clear hb
    go_wp2_with fail
    refine (Keeps_any h _ _ _ _ turns _ (HH5.out.1.below HD6.out (Nat.le_refl _)) (HH5.out.2.1.below HD6.out (Nat.le_refl _)) (HH5.out.2.2.below HD6.out (Nat.le_refl _)) HV6.out).mono ?_
    rintro e W7 ⟨rfl, hb⟩
    rw [HAB.out.1, HAB.out.2.2.1]
    (try clear hcr hsr)
    have HD7 := Lib.hid hb
    have HB7 := Lib.hid (bgo HB6.out hb)
    obtain ⟨hcr, _, hsr⟩ := cells_of_block ((HB7.out.block w.heap.size (by simp)).trans (heap_new0 w _))
    clear hb
    go_wp2_with fail
    refine (Heap_any h _ _ _ _ ((HW.out.alloc _).below HB7.out (Nat.le_refl _)) ((HT.out.alloc _).below HB7.out (Nat.le_refl _)) ((HX.out.alloc _).below HB7.out (Nat.le_refl _)) (by omega) (by omega) (by omega)).mono ?_
    rintro e W8 ⟨a8, b8, c8, rfl, h1, h2, h3, hb⟩
    (try clear hcr hsr)
    have HD8 := Lib.hid hb
    have HB8 := Lib.hid (bgo HB7.out hb)
    obtain ⟨hcr, _, hsr⟩ := cells_of_block ((HB8.out.block w.heap.size (by simp)).trans (heap_new0 w _))
    clear hb
    have HH8 := Lib.hid (And.intro h1 (And.intro h2 h3))
    clear h1 h2 h3
    go_wp2_with fail
    refine (list_any turns _ _ ((HRT.out.alloc _).below HB8.out (Nat.le_refl _)) (by omega)).mono ?_
    rintro e W9 ⟨v, rfl, ho, hb⟩
    obtain ⟨o9, c9, rfl⟩ := owns_slice ho
    have HV9 := Lib.hid (SlAt.of_owns ho)
    clear ho
    (try clear hcr hsr)
    have HD9 := Lib.hid hb
    have HB9 := Lib.hid (bgo HB8.out hb)
    obtain ⟨hcr, _, hsr⟩ := cells_of_block ((HB9.out.block w.heap.size (by simp)).trans (heap_new0 w _))
    clear hb
    go_wp2_with fail
    refine (ProveKeeps_any h _ _ _ _ turns _ (HH8.out.1.below HD9.out (Nat.le_refl _)) (HH8.out.2.1.below HD9.out (Nat.le_refl _)) (HH8.out.2.2.below HD9.out (Nat.le_refl _)) HV9.out).mono ?_
    rintro e W10 ⟨rfl, hb⟩
    rw [HAB.out.2.2.2]
    (try clear hcr hsr)
    have HD10 := Lib.hid hb
    have HB10 := Lib.hid (bgo HB9.out hb)
    obtain ⟨hcr, _, hsr⟩ := cells_of_block ((HB10.out.block w.heap.size (by simp)).trans (heap_new0 w _))
    clear hb
    go_wp2_with fail
    refine (sure_any h _ _ _ _ ((HW.out.alloc _).below HB10.out (Nat.le_refl _)) ((HT.out.alloc _).below HB10.out (Nat.le_refl _)) ((HX.out.alloc _).below HB10.out (Nat.le_refl _))).mono ?_
    rintro e W11 ⟨v, es, rfl, hv, hes, hi, hb⟩
    rw [HSU.out]
    obtain ⟨oe, ce, rfl⟩ := TEAt.open hv
    have HV11 := Lib.hid (And.intro hv (And.intro hes hi))
    have hle11 := TEAt.len hv
    clear hv hes hi
    (try clear hcr hsr)
    have HD11 := Lib.hid hb
    have HB11 := Lib.hid (bgo HB10.out hb)
    obtain ⟨hcr, _, hsr⟩ := cells_of_block ((HB11.out.block w.heap.size (by simp)).trans (heap_new0 w _))
    clear hb
    go_wp2_with fail
    refine (lawFault_any h _ _ _ _ ((HW.out.alloc _).below HB11.out (Nat.le_refl _)) ((HT.out.alloc _).below HB11.out (Nat.le_refl _)) ((HX.out.alloc _).below HB11.out (Nat.le_refl _))).mono ?_
    rintro e W12 ⟨rfl, hb⟩
    rw [HF.out]
    (try clear hcr hsr)
    have HD12 := Lib.hid hb
    have HB12 := Lib.hid (bgo HB11.out hb)
    obtain ⟨hcr, _, hsr⟩ := cells_of_block ((HB12.out.block w.heap.size (by simp)).trans (heap_new0 w _))
    clear hb
    go_wp2_with fail
    refine (awake_any _).mono ?_
    rintro e W13 ⟨rfl, hb⟩
    (try clear hcr hsr)
    have HD13 := Lib.hid hb
    have HB13 := Lib.hid (bgo HB12.out hb)
    obtain ⟨hcr, _, hsr⟩ := cells_of_block ((HB13.out.block w.heap.size (by simp)).trans (heap_new0 w _))
    clear hb
    go_wp2_with fail
    go_returns
    exact ⟨by simp, bgo (bgoAlloc (Below.refl _ _) _) HB13.out⟩
  subst hf0
  have hS := sound_of hf
  have HS := Lib.hid hS
  cases htu : isTurns h.last turns
  case false =>
    have ha : askErr h turns = 2 := by unfold askErr; rw [if_neg (by rw [hf]; simp), if_pos htu]
    have HAB := Lib.hid (ask_bad ha (by decide))
    have HTU := Lib.hid htu
    clear hf hs ha htu hS
    go_enter Try.func12, Try.ntmps12
    go_wp2_with fail
    refine (Thin_any h _ _ _ _ ((HW.out.alloc _).below HB0.out (Nat.le_refl _)) ((HT.out.alloc _).below HB0.out (Nat.le_refl _)) ((HX.out.alloc _).below HB0.out (Nat.le_refl _))).mono ?_
    rw [HTH.out]
    rintro e W1 ⟨rfl, hb⟩
    (try clear hcr hsr)
    have HD1 := Lib.hid hb
    have HB1 := Lib.hid (bgo HB0.out hb)
    obtain ⟨hcr, _, hsr⟩ := cells_of_block ((HB1.out.block w.heap.size (by simp)).trans (heap_new0 w _))
    clear hb
    go_wp2_with fail
    refine (Heap_any h _ _ _ _ ((HW.out.alloc _).below HB1.out (Nat.le_refl _)) ((HT.out.alloc _).below HB1.out (Nat.le_refl _)) ((HX.out.alloc _).below HB1.out (Nat.le_refl _)) (by omega) (by omega) (by omega)).mono ?_
    rintro e W2 ⟨a2, b2, c2, rfl, h1, h2, h3, hb⟩
    (try clear hcr hsr)
    have HD2 := Lib.hid hb
    have HB2 := Lib.hid (bgo HB1.out hb)
    obtain ⟨hcr, _, hsr⟩ := cells_of_block ((HB2.out.block w.heap.size (by simp)).trans (heap_new0 w _))
    clear hb
    have HH2 := Lib.hid (And.intro h1 (And.intro h2 h3))
    clear h1 h2 h3
    go_wp2_with fail
    refine (list_any turns _ _ ((HRT.out.alloc _).below HB2.out (Nat.le_refl _)) (by omega)).mono ?_
    rintro e W3 ⟨v, rfl, ho, hb⟩
    obtain ⟨o3, c3, rfl⟩ := owns_slice ho
    have HV3 := Lib.hid (SlAt.of_owns ho)
    clear ho
    (try clear hcr hsr)
    have HD3 := Lib.hid hb
    have HB3 := Lib.hid (bgo HB2.out hb)
    obtain ⟨hcr, _, hsr⟩ := cells_of_block ((HB3.out.block w.heap.size (by simp)).trans (heap_new0 w _))
    clear hb
    go_wp2_with fail
    refine (Bounds_any h _ _ _ _ turns _ (HH2.out.1.below HD3.out (Nat.le_refl _)) (HH2.out.2.1.below HD3.out (Nat.le_refl _)) (HH2.out.2.2.below HD3.out (Nat.le_refl _)) HV3.out).mono ?_
    rintro e W4 ⟨v, rfl, hv, hb⟩
    rw [HAB.out.1]
    rw [HAB.out.2.1] at hv
    obtain ⟨o4, c4, rfl⟩ := SlAt.open hv
    have HV4 := Lib.hid hv
    clear hv
    (try clear hcr hsr)
    have HD4 := Lib.hid hb
    have HB4 := Lib.hid (bgo HB3.out hb)
    obtain ⟨hcr, _, hsr⟩ := cells_of_block ((HB4.out.block w.heap.size (by simp)).trans (heap_new0 w _))
    clear hb
    go_wp2_with fail
    refine (Heap_any h _ _ _ _ ((HW.out.alloc _).below HB4.out (Nat.le_refl _)) ((HT.out.alloc _).below HB4.out (Nat.le_refl _)) ((HX.out.alloc _).below HB4.out (Nat.le_refl _)) (by omega) (by omega) (by omega)).mono ?_
    rintro e W5 ⟨a5, b5, c5, rfl, h1, h2, h3, hb⟩
    (try clear hcr hsr)
    have HD5 := Lib.hid hb
    have HB5 := Lib.hid (bgo HB4.out hb)
    obtain ⟨hcr, _, hsr⟩ := cells_of_block ((HB5.out.block w.heap.size (by simp)).trans (heap_new0 w _))
    clear hb
    have HH5 := Lib.hid (And.intro h1 (And.intro h2 h3))
    clear h1 h2 h3
    go_wp2_with fail
    refine (list_any turns _ _ ((HRT.out.alloc _).below HB5.out (Nat.le_refl _)) (by omega)).mono ?_
    rintro e W6 ⟨v, rfl, ho, hb⟩
    obtain ⟨o6, c6, rfl⟩ := owns_slice ho
    have HV6 := Lib.hid (SlAt.of_owns ho)
    clear ho
    (try clear hcr hsr)
    have HD6 := Lib.hid hb
    have HB6 := Lib.hid (bgo HB5.out hb)
    obtain ⟨hcr, _, hsr⟩ := cells_of_block ((HB6.out.block w.heap.size (by simp)).trans (heap_new0 w _))
    clear hb
    go_wp2_with fail
    refine (Keeps_any h _ _ _ _ turns _ (HH5.out.1.below HD6.out (Nat.le_refl _)) (HH5.out.2.1.below HD6.out (Nat.le_refl _)) (HH5.out.2.2.below HD6.out (Nat.le_refl _)) HV6.out).mono ?_
    rintro e W7 ⟨rfl, hb⟩
    rw [HAB.out.1, HAB.out.2.2.1]
    (try clear hcr hsr)
    have HD7 := Lib.hid hb
    have HB7 := Lib.hid (bgo HB6.out hb)
    obtain ⟨hcr, _, hsr⟩ := cells_of_block ((HB7.out.block w.heap.size (by simp)).trans (heap_new0 w _))
    clear hb
    go_wp2_with fail
    refine (Heap_any h _ _ _ _ ((HW.out.alloc _).below HB7.out (Nat.le_refl _)) ((HT.out.alloc _).below HB7.out (Nat.le_refl _)) ((HX.out.alloc _).below HB7.out (Nat.le_refl _)) (by omega) (by omega) (by omega)).mono ?_
    rintro e W8 ⟨a8, b8, c8, rfl, h1, h2, h3, hb⟩
    (try clear hcr hsr)
    have HD8 := Lib.hid hb
    have HB8 := Lib.hid (bgo HB7.out hb)
    obtain ⟨hcr, _, hsr⟩ := cells_of_block ((HB8.out.block w.heap.size (by simp)).trans (heap_new0 w _))
    clear hb
    have HH8 := Lib.hid (And.intro h1 (And.intro h2 h3))
    clear h1 h2 h3
    go_wp2_with fail
    refine (list_any turns _ _ ((HRT.out.alloc _).below HB8.out (Nat.le_refl _)) (by omega)).mono ?_
    rintro e W9 ⟨v, rfl, ho, hb⟩
    obtain ⟨o9, c9, rfl⟩ := owns_slice ho
    have HV9 := Lib.hid (SlAt.of_owns ho)
    clear ho
    (try clear hcr hsr)
    have HD9 := Lib.hid hb
    have HB9 := Lib.hid (bgo HB8.out hb)
    obtain ⟨hcr, _, hsr⟩ := cells_of_block ((HB9.out.block w.heap.size (by simp)).trans (heap_new0 w _))
    clear hb
    go_wp2_with fail
    refine (ProveKeeps_any h _ _ _ _ turns _ (HH8.out.1.below HD9.out (Nat.le_refl _)) (HH8.out.2.1.below HD9.out (Nat.le_refl _)) (HH8.out.2.2.below HD9.out (Nat.le_refl _)) HV9.out).mono ?_
    rintro e W10 ⟨rfl, hb⟩
    rw [HAB.out.2.2.2]
    (try clear hcr hsr)
    have HD10 := Lib.hid hb
    have HB10 := Lib.hid (bgo HB9.out hb)
    obtain ⟨hcr, _, hsr⟩ := cells_of_block ((HB10.out.block w.heap.size (by simp)).trans (heap_new0 w _))
    clear hb
    go_wp2_with fail
    refine (sure_any h _ _ _ _ ((HW.out.alloc _).below HB10.out (Nat.le_refl _)) ((HT.out.alloc _).below HB10.out (Nat.le_refl _)) ((HX.out.alloc _).below HB10.out (Nat.le_refl _))).mono ?_
    rintro e W11 ⟨v, es, rfl, hv, hes, hi, hb⟩
    rw [HSU.out]
    obtain ⟨oe, ce, rfl⟩ := TEAt.open hv
    have HV11 := Lib.hid (And.intro hv (And.intro hes hi))
    have hle11 := TEAt.len hv
    clear hv hes hi
    (try clear hcr hsr)
    have HD11 := Lib.hid hb
    have HB11 := Lib.hid (bgo HB10.out hb)
    obtain ⟨hcr, _, hsr⟩ := cells_of_block ((HB11.out.block w.heap.size (by simp)).trans (heap_new0 w _))
    clear hb
    go_wp2_with fail
    refine (lawFault_any h _ _ _ _ ((HW.out.alloc _).below HB11.out (Nat.le_refl _)) ((HT.out.alloc _).below HB11.out (Nat.le_refl _)) ((HX.out.alloc _).below HB11.out (Nat.le_refl _))).mono ?_
    rintro e W12 ⟨rfl, hb⟩
    rw [HF.out]
    (try clear hcr hsr)
    have HD12 := Lib.hid hb
    have HB12 := Lib.hid (bgo HB11.out hb)
    obtain ⟨hcr, _, hsr⟩ := cells_of_block ((HB12.out.block w.heap.size (by simp)).trans (heap_new0 w _))
    clear hb
    go_wp2_with fail
    refine (IsTurns_any h _ _ _ turns _ _ ((HRT.out.alloc _).below HB12.out (Nat.le_refl _))).mono ?_
    rw [HTU.out]
    rintro e W13 ⟨rfl, hb⟩
    (try clear hcr hsr)
    have HD13 := Lib.hid hb
    have HB13 := Lib.hid (bgo HB12.out hb)
    obtain ⟨hcr, _, hsr⟩ := cells_of_block ((HB13.out.block w.heap.size (by simp)).trans (heap_new0 w _))
    clear hb
    go_wp2_with fail
    refine (awake_any _).mono ?_
    rintro e W14 ⟨rfl, hb⟩
    (try clear hcr hsr)
    have HD14 := Lib.hid hb
    have HB14 := Lib.hid (bgo HB13.out hb)
    obtain ⟨hcr, _, hsr⟩ := cells_of_block ((HB14.out.block w.heap.size (by simp)).trans (heap_new0 w _))
    clear hb
    go_wp2_with fail
    go_returns
    exact ⟨by simp, bgo (bgoAlloc (Below.refl _ _) _) HB14.out⟩
  have HTU := Lib.hid htu
  cases hte : (truthsL h []).isEmpty
  case true =>
    have ha : askErr h turns = 11 := by unfold askErr; rw [if_neg (by rw [hf]; simp), if_neg (by rw [htu]; simp), if_pos hte]
    have HAB := Lib.hid (ask_bad ha (by decide))
    have hnil : truthsR h = [] := by
      rw [List.eq_nil_iff_forall_not_mem]
      intro t hm
      have := (truthsR_mem hS t).1 hm
      rw [List.isEmpty_iff.1 hte] at this
      cases this
    obtain rfl : s = 11 := by rw [← hs]; unfold sureE; rw [if_neg (by rw [hf]; simp), hnil]; rfl
    clear hf hs ha htu hS hte hnil
    go_enter Try.func12, Try.ntmps12
    go_wp2_with fail
    refine (Thin_any h _ _ _ _ ((HW.out.alloc _).below HB0.out (Nat.le_refl _)) ((HT.out.alloc _).below HB0.out (Nat.le_refl _)) ((HX.out.alloc _).below HB0.out (Nat.le_refl _))).mono ?_
    rw [HTH.out]
    rintro e W1 ⟨rfl, hb⟩
    (try clear hcr hsr)
    have HD1 := Lib.hid hb
    have HB1 := Lib.hid (bgo HB0.out hb)
    obtain ⟨hcr, _, hsr⟩ := cells_of_block ((HB1.out.block w.heap.size (by simp)).trans (heap_new0 w _))
    clear hb
    go_wp2_with fail
    refine (Heap_any h _ _ _ _ ((HW.out.alloc _).below HB1.out (Nat.le_refl _)) ((HT.out.alloc _).below HB1.out (Nat.le_refl _)) ((HX.out.alloc _).below HB1.out (Nat.le_refl _)) (by omega) (by omega) (by omega)).mono ?_
    rintro e W2 ⟨a2, b2, c2, rfl, h1, h2, h3, hb⟩
    (try clear hcr hsr)
    have HD2 := Lib.hid hb
    have HB2 := Lib.hid (bgo HB1.out hb)
    obtain ⟨hcr, _, hsr⟩ := cells_of_block ((HB2.out.block w.heap.size (by simp)).trans (heap_new0 w _))
    clear hb
    have HH2 := Lib.hid (And.intro h1 (And.intro h2 h3))
    clear h1 h2 h3
    go_wp2_with fail
    refine (list_any turns _ _ ((HRT.out.alloc _).below HB2.out (Nat.le_refl _)) (by omega)).mono ?_
    rintro e W3 ⟨v, rfl, ho, hb⟩
    obtain ⟨o3, c3, rfl⟩ := owns_slice ho
    have HV3 := Lib.hid (SlAt.of_owns ho)
    clear ho
    (try clear hcr hsr)
    have HD3 := Lib.hid hb
    have HB3 := Lib.hid (bgo HB2.out hb)
    obtain ⟨hcr, _, hsr⟩ := cells_of_block ((HB3.out.block w.heap.size (by simp)).trans (heap_new0 w _))
    clear hb
    go_wp2_with fail
    refine (Bounds_any h _ _ _ _ turns _ (HH2.out.1.below HD3.out (Nat.le_refl _)) (HH2.out.2.1.below HD3.out (Nat.le_refl _)) (HH2.out.2.2.below HD3.out (Nat.le_refl _)) HV3.out).mono ?_
    rintro e W4 ⟨v, rfl, hv, hb⟩
    rw [HAB.out.1]
    rw [HAB.out.2.1] at hv
    obtain ⟨o4, c4, rfl⟩ := SlAt.open hv
    have HV4 := Lib.hid hv
    clear hv
    (try clear hcr hsr)
    have HD4 := Lib.hid hb
    have HB4 := Lib.hid (bgo HB3.out hb)
    obtain ⟨hcr, _, hsr⟩ := cells_of_block ((HB4.out.block w.heap.size (by simp)).trans (heap_new0 w _))
    clear hb
    go_wp2_with fail
    refine (Heap_any h _ _ _ _ ((HW.out.alloc _).below HB4.out (Nat.le_refl _)) ((HT.out.alloc _).below HB4.out (Nat.le_refl _)) ((HX.out.alloc _).below HB4.out (Nat.le_refl _)) (by omega) (by omega) (by omega)).mono ?_
    rintro e W5 ⟨a5, b5, c5, rfl, h1, h2, h3, hb⟩
    (try clear hcr hsr)
    have HD5 := Lib.hid hb
    have HB5 := Lib.hid (bgo HB4.out hb)
    obtain ⟨hcr, _, hsr⟩ := cells_of_block ((HB5.out.block w.heap.size (by simp)).trans (heap_new0 w _))
    clear hb
    have HH5 := Lib.hid (And.intro h1 (And.intro h2 h3))
    clear h1 h2 h3
    go_wp2_with fail
    refine (list_any turns _ _ ((HRT.out.alloc _).below HB5.out (Nat.le_refl _)) (by omega)).mono ?_
    rintro e W6 ⟨v, rfl, ho, hb⟩
    obtain ⟨o6, c6, rfl⟩ := owns_slice ho
    have HV6 := Lib.hid (SlAt.of_owns ho)
    clear ho
    (try clear hcr hsr)
    have HD6 := Lib.hid hb
    have HB6 := Lib.hid (bgo HB5.out hb)
    obtain ⟨hcr, _, hsr⟩ := cells_of_block ((HB6.out.block w.heap.size (by simp)).trans (heap_new0 w _))
    clear hb
    go_wp2_with fail
    refine (Keeps_any h _ _ _ _ turns _ (HH5.out.1.below HD6.out (Nat.le_refl _)) (HH5.out.2.1.below HD6.out (Nat.le_refl _)) (HH5.out.2.2.below HD6.out (Nat.le_refl _)) HV6.out).mono ?_
    rintro e W7 ⟨rfl, hb⟩
    rw [HAB.out.1, HAB.out.2.2.1]
    (try clear hcr hsr)
    have HD7 := Lib.hid hb
    have HB7 := Lib.hid (bgo HB6.out hb)
    obtain ⟨hcr, _, hsr⟩ := cells_of_block ((HB7.out.block w.heap.size (by simp)).trans (heap_new0 w _))
    clear hb
    go_wp2_with fail
    refine (Heap_any h _ _ _ _ ((HW.out.alloc _).below HB7.out (Nat.le_refl _)) ((HT.out.alloc _).below HB7.out (Nat.le_refl _)) ((HX.out.alloc _).below HB7.out (Nat.le_refl _)) (by omega) (by omega) (by omega)).mono ?_
    rintro e W8 ⟨a8, b8, c8, rfl, h1, h2, h3, hb⟩
    (try clear hcr hsr)
    have HD8 := Lib.hid hb
    have HB8 := Lib.hid (bgo HB7.out hb)
    obtain ⟨hcr, _, hsr⟩ := cells_of_block ((HB8.out.block w.heap.size (by simp)).trans (heap_new0 w _))
    clear hb
    have HH8 := Lib.hid (And.intro h1 (And.intro h2 h3))
    clear h1 h2 h3
    go_wp2_with fail
    refine (list_any turns _ _ ((HRT.out.alloc _).below HB8.out (Nat.le_refl _)) (by omega)).mono ?_
    rintro e W9 ⟨v, rfl, ho, hb⟩
    obtain ⟨o9, c9, rfl⟩ := owns_slice ho
    have HV9 := Lib.hid (SlAt.of_owns ho)
    clear ho
    (try clear hcr hsr)
    have HD9 := Lib.hid hb
    have HB9 := Lib.hid (bgo HB8.out hb)
    obtain ⟨hcr, _, hsr⟩ := cells_of_block ((HB9.out.block w.heap.size (by simp)).trans (heap_new0 w _))
    clear hb
    go_wp2_with fail
    refine (ProveKeeps_any h _ _ _ _ turns _ (HH8.out.1.below HD9.out (Nat.le_refl _)) (HH8.out.2.1.below HD9.out (Nat.le_refl _)) (HH8.out.2.2.below HD9.out (Nat.le_refl _)) HV9.out).mono ?_
    rintro e W10 ⟨rfl, hb⟩
    rw [HAB.out.2.2.2]
    (try clear hcr hsr)
    have HD10 := Lib.hid hb
    have HB10 := Lib.hid (bgo HB9.out hb)
    obtain ⟨hcr, _, hsr⟩ := cells_of_block ((HB10.out.block w.heap.size (by simp)).trans (heap_new0 w _))
    clear hb
    go_wp2_with fail
    refine (sure_any h _ _ _ _ ((HW.out.alloc _).below HB10.out (Nat.le_refl _)) ((HT.out.alloc _).below HB10.out (Nat.le_refl _)) ((HX.out.alloc _).below HB10.out (Nat.le_refl _))).mono ?_
    rintro e W11 ⟨v, es, rfl, hv, hes, hi, hb⟩
    rw [HSU.out]
    obtain ⟨oe, ce, rfl⟩ := TEAt.open hv
    have HV11 := Lib.hid (And.intro hv (And.intro hes hi))
    have hle11 := TEAt.len hv
    clear hv hes hi
    (try clear hcr hsr)
    have HD11 := Lib.hid hb
    have HB11 := Lib.hid (bgo HB10.out hb)
    obtain ⟨hcr, _, hsr⟩ := cells_of_block ((HB11.out.block w.heap.size (by simp)).trans (heap_new0 w _))
    clear hb
    go_wp2_with fail
    refine (lawFault_any h _ _ _ _ ((HW.out.alloc _).below HB11.out (Nat.le_refl _)) ((HT.out.alloc _).below HB11.out (Nat.le_refl _)) ((HX.out.alloc _).below HB11.out (Nat.le_refl _))).mono ?_
    rintro e W12 ⟨rfl, hb⟩
    rw [HF.out]
    (try clear hcr hsr)
    have HD12 := Lib.hid hb
    have HB12 := Lib.hid (bgo HB11.out hb)
    obtain ⟨hcr, _, hsr⟩ := cells_of_block ((HB12.out.block w.heap.size (by simp)).trans (heap_new0 w _))
    clear hb
    go_wp2_with fail
    refine (IsTurns_any h _ _ _ turns _ _ ((HRT.out.alloc _).below HB12.out (Nat.le_refl _))).mono ?_
    rw [HTU.out]
    rintro e W13 ⟨rfl, hb⟩
    (try clear hcr hsr)
    have HD13 := Lib.hid hb
    have HB13 := Lib.hid (bgo HB12.out hb)
    obtain ⟨hcr, _, hsr⟩ := cells_of_block ((HB13.out.block w.heap.size (by simp)).trans (heap_new0 w _))
    clear hb
    go_wp2_with fail
    refine (awake_any _).mono ?_
    rintro e W14 ⟨rfl, hb⟩
    (try clear hcr hsr)
    have HD14 := Lib.hid hb
    have HB14 := Lib.hid (bgo HB13.out hb)
    obtain ⟨hcr, _, hsr⟩ := cells_of_block ((HB14.out.block w.heap.size (by simp)).trans (heap_new0 w _))
    clear hb
    go_wp2_with fail
    go_returns
    exact ⟨by simp, bgo (bgoAlloc (Below.refl _ _) _) HB14.out⟩
  have ha : askErr h turns = 0 := by unfold askErr; rw [if_neg (by rw [hf]; simp), if_neg (by rw [htu]; simp), if_neg (by rw [hte]; simp)]
  have hne : (truthsR h).length ≠ 0 := fun e => by
    have h1 := List.eq_nil_of_length_eq_zero e
    cases hl : truthsL h [] with
    | nil => rw [hl] at hte; cases hte
    | cons a l =>
      have := (truthsR_mem hS a).2 (by rw [hl]; exact List.mem_cons_self)
      rw [h1] at this
      cases this
  obtain rfl : s = 0 := by rw [← hs]; unfold sureE; rw [if_neg (by rw [hf]; simp), if_neg hne]
  have HSL : Hid (sureL h = truthsR h) := Lib.hid (by unfold sureL; rw [if_neg (by rw [hf]; simp)])
  have HOKT : Hid (∀ t ∈ truthsR h, HeatOk h t ∧ (h.last + 1).toNat ≤ t.2.length) := Lib.hid (fun t hm => by
    obtain ⟨j, _, e, _⟩ := (truthsTo_mem h t _).1 hm
    exact ⟨by rw [← e]; exact heatOk_of hS (nthT_listed hS _), truth_len hS ((truthsR_mem hS t).1 hm)⟩)
  have hl0 := hS.last0
  have hl9 := hS.last9
  obtain ⟨hbl, hba⟩ := bounds_eq ha hte
  obtain ⟨B, hB⟩ : ∃ B, boundsOut h turns = B := ⟨_, rfl⟩
  obtain ⟨V, hV⟩ : ∃ V, keepsV h turns = V := ⟨_, rfl⟩
  obtain ⟨P, hP⟩ : ∃ P, ((V == 1) : Bool) = P := ⟨_, rfl⟩
  have hVV : (V != V) = false := by simp
  have hPP : (P != P) = false := by simp
  have HAB : Hid (askErr h turns = 0 ∧ boundsOut h turns = B ∧ keepsV h turns = V ∧ (askErr h turns == 0 && keepsV h turns == 1) = P) := Lib.hid ⟨ha, hB, hV, by rw [ha, hV, hP]; rfl⟩
  have HKR : Hid (keepsR h turns (truthsR h) = V) := Lib.hid ((keeps_eq ha).trans hV)
  rw [hB] at hbl hba
  have hbl2 : (B.length : Int) = h.last + 1 := by omega
  have hbl3 : ((B.length : Int) != h.last + 1) = false := by rw [hbl2]; simp
  have HBL := Lib.hid (And.intro hbl hba)
  have hbl12 : B.length ≤ 10 := by omega
  clear hf hs ha htu hS hte hne hbl hba hB hV hbl2
  go_enter Try.func12, Try.ntmps12
  go_wp2_with fail
  refine (Thin_any h _ _ _ _ ((HW.out.alloc _).below HB0.out (Nat.le_refl _)) ((HT.out.alloc _).below HB0.out (Nat.le_refl _)) ((HX.out.alloc _).below HB0.out (Nat.le_refl _))).mono ?_
  rw [HTH.out]
  rintro e W1 ⟨rfl, hb⟩
  (try clear hcr hsr)
  have HD1 := Lib.hid hb
  have HB1 := Lib.hid (bgo HB0.out hb)
  obtain ⟨hcr, _, hsr⟩ := cells_of_block ((HB1.out.block w.heap.size (by simp)).trans (heap_new0 w _))
  clear hb
  go_wp2_with fail
  refine (Heap_any h _ _ _ _ ((HW.out.alloc _).below HB1.out (Nat.le_refl _)) ((HT.out.alloc _).below HB1.out (Nat.le_refl _)) ((HX.out.alloc _).below HB1.out (Nat.le_refl _)) (by omega) (by omega) (by omega)).mono ?_
  rintro e W2 ⟨a2, b2, c2, rfl, h1, h2, h3, hb⟩
  (try clear hcr hsr)
  have HD2 := Lib.hid hb
  have HB2 := Lib.hid (bgo HB1.out hb)
  obtain ⟨hcr, _, hsr⟩ := cells_of_block ((HB2.out.block w.heap.size (by simp)).trans (heap_new0 w _))
  clear hb
  have HH2 := Lib.hid (And.intro h1 (And.intro h2 h3))
  clear h1 h2 h3
  go_wp2_with fail
  refine (list_any turns _ _ ((HRT.out.alloc _).below HB2.out (Nat.le_refl _)) (by omega)).mono ?_
  rintro e W3 ⟨v, rfl, ho, hb⟩
  obtain ⟨o3, c3, rfl⟩ := owns_slice ho
  have HV3 := Lib.hid (SlAt.of_owns ho)
  clear ho
  (try clear hcr hsr)
  have HD3 := Lib.hid hb
  have HB3 := Lib.hid (bgo HB2.out hb)
  obtain ⟨hcr, _, hsr⟩ := cells_of_block ((HB3.out.block w.heap.size (by simp)).trans (heap_new0 w _))
  clear hb
  go_wp2_with fail
  refine (Bounds_any h _ _ _ _ turns _ (HH2.out.1.below HD3.out (Nat.le_refl _)) (HH2.out.2.1.below HD3.out (Nat.le_refl _)) (HH2.out.2.2.below HD3.out (Nat.le_refl _)) HV3.out).mono ?_
  rintro e W4 ⟨v, rfl, hv, hb⟩
  rw [HAB.out.1]
  rw [HAB.out.2.1] at hv
  obtain ⟨o4, c4, rfl⟩ := SlAt.open hv
  have HV4 := Lib.hid hv
  clear hv
  (try clear hcr hsr)
  have HD4 := Lib.hid hb
  have HB4 := Lib.hid (bgo HB3.out hb)
  obtain ⟨hcr, _, hsr⟩ := cells_of_block ((HB4.out.block w.heap.size (by simp)).trans (heap_new0 w _))
  clear hb
  go_wp2_with fail
  refine (Heap_any h _ _ _ _ ((HW.out.alloc _).below HB4.out (Nat.le_refl _)) ((HT.out.alloc _).below HB4.out (Nat.le_refl _)) ((HX.out.alloc _).below HB4.out (Nat.le_refl _)) (by omega) (by omega) (by omega)).mono ?_
  rintro e W5 ⟨a5, b5, c5, rfl, h1, h2, h3, hb⟩
  (try clear hcr hsr)
  have HD5 := Lib.hid hb
  have HB5 := Lib.hid (bgo HB4.out hb)
  obtain ⟨hcr, _, hsr⟩ := cells_of_block ((HB5.out.block w.heap.size (by simp)).trans (heap_new0 w _))
  clear hb
  have HH5 := Lib.hid (And.intro h1 (And.intro h2 h3))
  clear h1 h2 h3
  go_wp2_with fail
  refine (list_any turns _ _ ((HRT.out.alloc _).below HB5.out (Nat.le_refl _)) (by omega)).mono ?_
  rintro e W6 ⟨v, rfl, ho, hb⟩
  obtain ⟨o6, c6, rfl⟩ := owns_slice ho
  have HV6 := Lib.hid (SlAt.of_owns ho)
  clear ho
  (try clear hcr hsr)
  have HD6 := Lib.hid hb
  have HB6 := Lib.hid (bgo HB5.out hb)
  obtain ⟨hcr, _, hsr⟩ := cells_of_block ((HB6.out.block w.heap.size (by simp)).trans (heap_new0 w _))
  clear hb
  go_wp2_with fail
  refine (Keeps_any h _ _ _ _ turns _ (HH5.out.1.below HD6.out (Nat.le_refl _)) (HH5.out.2.1.below HD6.out (Nat.le_refl _)) (HH5.out.2.2.below HD6.out (Nat.le_refl _)) HV6.out).mono ?_
  rintro e W7 ⟨rfl, hb⟩
  rw [HAB.out.1, HAB.out.2.2.1]
  (try clear hcr hsr)
  have HD7 := Lib.hid hb
  have HB7 := Lib.hid (bgo HB6.out hb)
  obtain ⟨hcr, _, hsr⟩ := cells_of_block ((HB7.out.block w.heap.size (by simp)).trans (heap_new0 w _))
  clear hb
  go_wp2_with fail
  refine (Heap_any h _ _ _ _ ((HW.out.alloc _).below HB7.out (Nat.le_refl _)) ((HT.out.alloc _).below HB7.out (Nat.le_refl _)) ((HX.out.alloc _).below HB7.out (Nat.le_refl _)) (by omega) (by omega) (by omega)).mono ?_
  rintro e W8 ⟨a8, b8, c8, rfl, h1, h2, h3, hb⟩
  (try clear hcr hsr)
  have HD8 := Lib.hid hb
  have HB8 := Lib.hid (bgo HB7.out hb)
  obtain ⟨hcr, _, hsr⟩ := cells_of_block ((HB8.out.block w.heap.size (by simp)).trans (heap_new0 w _))
  clear hb
  have HH8 := Lib.hid (And.intro h1 (And.intro h2 h3))
  clear h1 h2 h3
  go_wp2_with fail
  refine (list_any turns _ _ ((HRT.out.alloc _).below HB8.out (Nat.le_refl _)) (by omega)).mono ?_
  rintro e W9 ⟨v, rfl, ho, hb⟩
  obtain ⟨o9, c9, rfl⟩ := owns_slice ho
  have HV9 := Lib.hid (SlAt.of_owns ho)
  clear ho
  (try clear hcr hsr)
  have HD9 := Lib.hid hb
  have HB9 := Lib.hid (bgo HB8.out hb)
  obtain ⟨hcr, _, hsr⟩ := cells_of_block ((HB9.out.block w.heap.size (by simp)).trans (heap_new0 w _))
  clear hb
  go_wp2_with fail
  refine (ProveKeeps_any h _ _ _ _ turns _ (HH8.out.1.below HD9.out (Nat.le_refl _)) (HH8.out.2.1.below HD9.out (Nat.le_refl _)) (HH8.out.2.2.below HD9.out (Nat.le_refl _)) HV9.out).mono ?_
  rintro e W10 ⟨rfl, hb⟩
  rw [HAB.out.2.2.2]
  (try clear hcr hsr)
  have HD10 := Lib.hid hb
  have HB10 := Lib.hid (bgo HB9.out hb)
  obtain ⟨hcr, _, hsr⟩ := cells_of_block ((HB10.out.block w.heap.size (by simp)).trans (heap_new0 w _))
  clear hb
  go_wp2_with fail
  refine (sure_any h _ _ _ _ ((HW.out.alloc _).below HB10.out (Nat.le_refl _)) ((HT.out.alloc _).below HB10.out (Nat.le_refl _)) ((HX.out.alloc _).below HB10.out (Nat.le_refl _))).mono ?_
  rintro e W11 ⟨v, es, rfl, hv, hes, hi, hb⟩
  rw [HSU.out]
  obtain ⟨oe, ce, rfl⟩ := TEAt.open hv
  have HV11 := Lib.hid (And.intro hv (And.intro hes hi))
  have hle11 := TEAt.len hv
  clear hv hes hi
  (try clear hcr hsr)
  have HD11 := Lib.hid hb
  have HB11 := Lib.hid (bgo HB10.out hb)
  obtain ⟨hcr, _, hsr⟩ := cells_of_block ((HB11.out.block w.heap.size (by simp)).trans (heap_new0 w _))
  clear hb
  go_wp2_with fail
  refine (lawFault_any h _ _ _ _ ((HW.out.alloc _).below HB11.out (Nat.le_refl _)) ((HT.out.alloc _).below HB11.out (Nat.le_refl _)) ((HX.out.alloc _).below HB11.out (Nat.le_refl _))).mono ?_
  rintro e W12 ⟨rfl, hb⟩
  rw [HF.out]
  (try clear hcr hsr)
  have HD12 := Lib.hid hb
  have HB12 := Lib.hid (bgo HB11.out hb)
  obtain ⟨hcr, _, hsr⟩ := cells_of_block ((HB12.out.block w.heap.size (by simp)).trans (heap_new0 w _))
  clear hb
  go_wp2_with fail
  refine (IsTurns_any h _ _ _ turns _ _ ((HRT.out.alloc _).below HB12.out (Nat.le_refl _))).mono ?_
  rw [HTU.out]
  rintro e W13 ⟨rfl, hb⟩
  (try clear hcr hsr)
  have HD13 := Lib.hid hb
  have HB13 := Lib.hid (bgo HB12.out hb)
  obtain ⟨hcr, _, hsr⟩ := cells_of_block ((HB13.out.block w.heap.size (by simp)).trans (heap_new0 w _))
  clear hb
  go_wp2_with fail
  refine (refKeeps_any h _ _ _ _ _ es turns _ ((HW.out.alloc _).below HB13.out (Nat.le_refl _)) ((HT.out.alloc _).below HB13.out (Nat.le_refl _)) ((HX.out.alloc _).below HB13.out (Nat.le_refl _)) ((SlAt.below HV11.out.1 HD12.out (Nat.le_refl _)).below HD13.out (Nat.le_refl _)) (fun e he => ((HV11.out.2.2 e he).below HD12.out (Nat.le_refl _)).below HD13.out (Nat.le_refl _)) (fun e he => HOKT.out (teP e) (by rw [← HSL.out, ← HV11.out.2.1]; exact List.mem_map.2 ⟨e, he, rfl⟩)) hl0 hl9 ((HRT.out.alloc _).below HB13.out (Nat.le_refl _))).mono ?_
  rw [HV11.out.2.1, HSL.out, HKR.out]
  rintro e W14 ⟨rfl, hb⟩
  (try clear hcr hsr)
  have HD14 := Lib.hid hb
  have HB14 := Lib.hid (bgo HB13.out hb)
  obtain ⟨hcr, _, hsr⟩ := cells_of_block ((HB14.out.block w.heap.size (by simp)).trans (heap_new0 w _))
  clear hb
  have HBB : Hid (Below W11.heap.size W11 W14) := Lib.hid (bgo (bgo HD12.out HD13.out) HD14.out)
  have HB4 : Hid (PairsAt W14 (.slice o4 B.length c4) B) := Lib.hid (by
    exact SlAt.below (SlAt.below (SlAt.below (SlAt.below (SlAt.below (SlAt.below (SlAt.below (SlAt.below (SlAt.below (SlAt.below HV4.out HD5.out (Nat.le_refl _)) HD6.out (Nat.le_refl _)) HD7.out (Nat.le_refl _)) HD8.out (Nat.le_refl _)) HD9.out (Nat.le_refl _)) HD10.out (Nat.le_refl _)) HD11.out (Nat.le_refl _)) HD12.out (Nat.le_refl _)) HD13.out (Nat.le_refl _)) HD14.out (Nat.le_refl _))
  have HLE : Hid (es.map teP = truthsR h) := Lib.hid (by rw [HV11.out.2.1, HSL.out])
  clear HV4 HV3 HV6 HV9 HH2 HH5 HH8 HD1 HD2 HD3 HD4 HD5 HD6 HD7 HD8 HD9 HD10 HD11
  go_wp2_with fail
  go_loopw [13] (fun u wr => ∃ k : Nat, k ≤ B.length ∧ u = .int .i64 k ∧ Below W14.heap.size W14 wr) (fun u _ => B.length - (intOf u).toNat)
  case atStart => exact ⟨0, Nat.zero_le _, rfl, Below.refl _ _⟩
  case round =>
    obtain ⟨k, hk, rfl, hB⟩ := hrel
    have HB15 := Lib.hid (bgo HB14.out hB)
    have HD15 := Lib.hid hB
    clear hB hcr hsr
    obtain ⟨hcr, _, hsr⟩ := cells_of_block ((HB15.out.block w.heap.size (by simp)).trans (heap_new0 w _))
    by_cases hlt : k < B.length
    case neg =>
      obtain rfl : k = B.length := by omega
      go_wp2_with fail
      refine (awake_any _).mono ?_
      rintro e W16 ⟨rfl, hb⟩
      (try clear hcr hsr)
      have HD16 := Lib.hid hb
      have HB16 := Lib.hid (bgo HB15.out hb)
      obtain ⟨hcr, _, hsr⟩ := cells_of_block ((HB16.out.block w.heap.size (by simp)).trans (heap_new0 w _))
      clear hb
      go_wp2_with fail
      go_returns
      exact ⟨by simp, bgo (bgoAlloc (Below.refl _ _) _) HB16.out⟩
    have hltI : (k : Int) < B.length := by omega
    obtain ⟨hba1, _⟩ := HBL.out.2 k (by have := HBL.out.1; omega)
    obtain ⟨b, off, rfl, hb4, d1, d2⟩ := PairsAt.cell (SlAt.below HB4.out HD15.out (Nat.le_refl _)) hlt
    obtain ⟨lo, hlo⟩ : ∃ lo, (bndR h turns (truthsR h) k).1 = lo := ⟨_, rfl⟩
    obtain ⟨hi, hhi⟩ : ∃ hi, (bndR h turns (truthsR h) k).2 = hi := ⟨_, rfl⟩
    have hBk : B[k] = (lo, hi) := by rw [← hlo, ← hhi, ← getD_lt (d := (0, 0)) hlt, hba1]
    rw [hBk] at d1 d2
    have e1 : bndTo h turns k (es.map teP) es.length = (lo, hi) := by
      rw [HLE.out, show es.length = (truthsR h).length from by rw [← HLE.out]; simp]
      exact Prod.ext hlo hhi
    have HC := Lib.hid (fun (W : World) (hW : Below W14.heap.size W14 W) => refBounds_any h (.slice ow h.wet.length cw) (.slice ot h.turns.length ct) (.slice ox h.readings.length cx) (.slice oe es.length ce) (.slice or' turns.length cr) es turns k W
      ((((HW.out.alloc _).below HB14.out (Nat.le_refl _))).below hW (Nat.le_refl _)) ((((HT.out.alloc _).below HB14.out (Nat.le_refl _))).below hW (Nat.le_refl _)) ((((HX.out.alloc _).below HB14.out (Nat.le_refl _))).below hW (Nat.le_refl _)) (SlAt.below (SlAt.below HV11.out.1 HBB.out (Nat.le_refl _)) hW (Nat.le_refl _)) (fun e he => ((HV11.out.2.2 e he).below HBB.out (Nat.le_refl _)).below hW (Nat.le_refl _))
      (fun e he => ⟨(HOKT.out (teP e) (by rw [← HLE.out]; exact List.mem_map.2 ⟨e, he, rfl⟩)).1, by have h1 : (h.last + 1).toNat ≤ e.2.2.length := (HOKT.out (teP e) (by rw [← HLE.out]; exact List.mem_map.2 ⟨e, he, rfl⟩)).2; have := HBL.out.1; omega⟩) (by omega) ((((HRT.out.alloc _).below HB14.out (Nat.le_refl _))).below hW (Nat.le_refl _)))
    rw [e1] at HC
    clear hba1 hlo hhi hBk e1
    go_wp2_with fail
    refine wp_region_rg 11 [] none [(8, Spec.val (.agg #[iv lo, iv hi])), (9, Spec.val (.agg #[iv lo, iv hi]))] (by kernel_rfl) (by kernel_rfl) ?_
    simp only [List.take_succ_cons, List.take_zero, List.drop_succ_cons, List.drop_zero]
    repeat (first | (refine tree_det (by rfl) _ (by rfl) (fun W hW => by go_simp; (try simp (disch := omega) only [IntWalk.i64_in]); try rfl) ?_; simp only [Act.put, List.setIfInBounds_toArray, List.set_cons_succ, List.set_cons_zero]) | (refine tree_skip (by rfl) (by rfl) ?_; simp only [Act.put, List.setIfInBounds_toArray, List.set_cons_succ, List.set_cons_zero]))
    refine tree_val _ (by rfl) (by rfl) 53 _ (fun W hW => by go_simp; try rfl) (fun W hE hF => by exact HC.out W (bgo HD15.out (Ext.below (show Ext [] wr W from hE)))) ?_
    simp only [Act.put, List.setIfInBounds_toArray, List.set_cons_succ, List.set_cons_zero]
    repeat (first | (refine tree_det (by rfl) _ (by rfl) (fun W hW => by go_simp; (try simp (disch := omega) only [IntWalk.i64_in]); try rfl) ?_; simp only [Act.put, List.setIfInBounds_toArray, List.set_cons_succ, List.set_cons_zero]) | (refine tree_skip (by rfl) (by rfl) ?_; simp only [Act.put, List.setIfInBounds_toArray, List.set_cons_succ, List.set_cons_zero]))
    refine tree_val _ (by rfl) (by rfl) 52 _ (fun W hW => by go_simp; try rfl) (fun W hE hF => by exact to_any (lo, hi) W) ?_
    simp only [Act.put, List.setIfInBounds_toArray, List.set_cons_succ, List.set_cons_zero]
    repeat (first | (refine tree_det (by rfl) _ (by rfl) (fun W hW => by go_simp; (try simp (disch := omega) only [IntWalk.i64_in]); try rfl) ?_; simp only [Act.put, List.setIfInBounds_toArray, List.set_cons_succ, List.set_cons_zero]) | (refine tree_skip (by rfl) (by rfl) ?_; simp only [Act.put, List.setIfInBounds_toArray, List.set_cons_succ, List.set_cons_zero]))
    intro W3 hE hF
    have HE := Lib.hid (show Ext [] wr W3 from hE)
    clear hE hF hcr d1 d2
    go_wp2_with fail
    go_roundw
    case rel => exact ⟨k + 1, by omega, by go_num, bgo HD15.out HE.out.below⟩
    case measure => simp [intOf]; omega

end Go.Proofs.Ytoibfafmnaooaaa
