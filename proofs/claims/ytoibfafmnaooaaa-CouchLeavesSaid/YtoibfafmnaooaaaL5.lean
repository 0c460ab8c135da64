/-
  The walk of CouchLeaves: whatever the heap, it returns true; nothing that was there has turned.
-/
import Derived.WalkKit
import Derived.WalkLawsBesides
import Derived.WalkSpells
import Derived.Outline
import Derived.Handy
import Derived.KernelRfl
import Derived.Lib.Hide
import Derived.Test.YtoibfafmnaooaaaRC
namespace Go.Proofs.Ytoibfafmnaooaaa
open Go.RowKit Go.RG Go.SL Go.Shelf Cou
set_option maxHeartbeats 400000
set_option maxRecDepth 10000

theorem thin_len5 {h : HeapD} (ht : thinB h = true) : h.wet.length ≤ 12 ∧ h.turns.length ≤ 12 ∧ h.readings.length ≤ 7 := by
  simp only [thinB, Bool.and_eq_true, decide_eq_true_eq] at ht
  exact ⟨ht.1, ht.2.1, ht.2.2.1⟩

set_option maxHeartbeats 4000000 in
theorem CouchLeaves_any (h : HeapD) (wv tv xv' : Value) (w : World) (hw : PairsAt w wv h.wet) (ht : IntsAt w tv h.turns) (hx : TriplesAt w xv' h.readings) :
    Calls Try.prog 4 #[hv h wv tv xv'] w (PV (.bool true) w) := by
  obtain ⟨ow, cw, rfl⟩ := hw.open
  obtain ⟨ot, ct, rfl⟩ := ht.open
  obtain ⟨ox, cx, rfl⟩ := hx.open
  have HW := Lib.hid hw
  have HT := Lib.hid ht
  have HX := Lib.hid hx
  clear hw ht hx
  have HB0 := Lib.hid (Below.refl (w.alloc (.cells #[.int .i64 h.last, .int .i64 h.size, .int .i64 h.cool, .int .i64 h.die, .int .i64 h.burn, .int .i64 h.start.1, .int .i64 h.start.2, .slice ow h.wet.length cw, .slice ot h.turns.length ct, .slice ox h.readings.length cx] 28)).heap.size (w.alloc (.cells #[.int .i64 h.last, .int .i64 h.size, .int .i64 h.cool, .int .i64 h.die, .int .i64 h.burn, .int .i64 h.start.1, .int .i64 h.start.2, .slice ow h.wet.length cw, .slice ot h.turns.length ct, .slice ox h.readings.length cx] 28)))
  cases hth : thinB h
  case false =>
    have HTH := Lib.hid hth
    clear hth
    go_enter Try.func4, Try.ntmps4
    go_wp2_with fail
    refine (Thin_any h _ _ _ _ ((HW.out.alloc _).below HB0.out (Nat.le_refl _)) ((HT.out.alloc _).below HB0.out (Nat.le_refl _)) ((HX.out.alloc _).below HB0.out (Nat.le_refl _))).mono ?_
    rw [HTH.out]
    rintro e W1 ⟨rfl, hb⟩
    (try clear hcr hsr)
    have HD1 := Lib.hid hb
    have HB1 := Lib.hid (bgo HB0.out hb)
    obtain ⟨hcr, _, hsr⟩ := cells_of_block ((HB1.out.block w.heap.size (by simp)).trans (heap_new0 w _))
    clear hb
    go_wp2_with fail
    refine (awake_any _).mono ?_
    rintro e W2 ⟨rfl, hb⟩
    (try clear hcr hsr)
    have HD2 := Lib.hid hb
    have HB2 := Lib.hid (bgo HB1.out hb)
    obtain ⟨hcr, _, hsr⟩ := cells_of_block ((HB2.out.block w.heap.size (by simp)).trans (heap_new0 w _))
    clear hb
    go_wp2_with fail
    go_returns
    exact ⟨by simp, bgo (bgoAlloc (Below.refl _ _) _) HB2.out⟩
  case true =>
    obtain ⟨hlw, hlt, hlx⟩ := thin_len5 hth
    have HTH := Lib.hid hth
    clear hth
    obtain ⟨f, hf⟩ : ∃ f, fault h = f := ⟨_, rfl⟩
    by_cases hf0 : f = 0
    case neg =>
      have HE := Lib.hid (show firstV h = 0 ∧ firstE h = f ∧ leaveL h = [] from ⟨by rw [firstV, if_pos (by rw [hf]; exact hf0)], by rw [firstE, if_pos (by rw [hf]; exact hf0), hf], by rw [leaveL, if_pos (by rw [hf]; exact hf0)]⟩)
      have HF := Lib.hid hf
      have hfn : (f != 0) = true := by simpa using hf0
      clear hf hf0
      go_enter Try.func4, Try.ntmps4
      go_wp2_with fail
      refine (Thin_any h _ _ _ _ ((HW.out.alloc _).below HB0.out (Nat.le_refl _)) ((HT.out.alloc _).below HB0.out (Nat.le_refl _)) ((HX.out.alloc _).below HB0.out (Nat.le_refl _))).mono ?_
      rw [HTH.out]
      rintro e W1 ⟨rfl, hb⟩
      (try clear hcr hsr)
      have HD1 := Lib.hid hb
      have HB1 := Lib.hid (bgo HB0.out hb)
      obtain ⟨hcr, _, hsr⟩ := cells_of_block ((HB1.out.block w.heap.size (by simp)).trans (heap_new0 w _))
      clear hb
      go_wp2_with fail
      refine (Heap_any h _ _ _ _ ((HW.out.alloc _).below HB1.out (Nat.le_refl _)) ((HT.out.alloc _).below HB1.out (Nat.le_refl _)) ((HX.out.alloc _).below HB1.out (Nat.le_refl _)) (by omega) (by omega) (by omega)).mono ?_
      rintro e W2 ⟨a2, b2, c2, rfl, h1, h2, h3, hb⟩
      (try clear hcr hsr)
      have HD2 := Lib.hid hb
      have HB2 := Lib.hid (bgo HB1.out hb)
      obtain ⟨hcr, _, hsr⟩ := cells_of_block ((HB2.out.block w.heap.size (by simp)).trans (heap_new0 w _))
      clear hb
      have HH2 := Lib.hid (And.intro h1 (And.intro h2 h3))
      clear h1 h2 h3
      go_wp2_with fail
      refine (First_any h _ _ _ _ HH2.out.1 HH2.out.2.1 HH2.out.2.2).mono ?_
      rintro e W3 ⟨rfl, hb⟩
      rw [HE.out.1, HE.out.2.1]
      (try clear hcr hsr)
      have HD3 := Lib.hid hb
      have HB3 := Lib.hid (bgo HB2.out hb)
      obtain ⟨hcr, _, hsr⟩ := cells_of_block ((HB3.out.block w.heap.size (by simp)).trans (heap_new0 w _))
      clear hb
      go_wp2_with fail
      refine (Heap_any h _ _ _ _ ((HW.out.alloc _).below HB3.out (Nat.le_refl _)) ((HT.out.alloc _).below HB3.out (Nat.le_refl _)) ((HX.out.alloc _).below HB3.out (Nat.le_refl _)) (by omega) (by omega) (by omega)).mono ?_
      rintro e W4 ⟨a4, b4, c4, rfl, h1, h2, h3, hb⟩
      (try clear hcr hsr)
      have HD4 := Lib.hid hb
      have HB4 := Lib.hid (bgo HB3.out hb)
      obtain ⟨hcr, _, hsr⟩ := cells_of_block ((HB4.out.block w.heap.size (by simp)).trans (heap_new0 w _))
      clear hb
      have HH4 := Lib.hid (And.intro h1 (And.intro h2 h3))
      clear h1 h2 h3
      go_wp2_with fail
      refine (Leave_any h _ _ _ _ HH4.out.1 HH4.out.2.1 HH4.out.2.2).mono ?_
      rintro e W5 ⟨v, rfl, hv, hb⟩
      rw [HE.out.2.2] at hv
      rw [HF.out]
      obtain ⟨o5, c5, rfl⟩ := hv.open
      clear hv
      (try clear hcr hsr)
      have HD5 := Lib.hid hb
      have HB5 := Lib.hid (bgo HB4.out hb)
      obtain ⟨hcr, _, hsr⟩ := cells_of_block ((HB5.out.block w.heap.size (by simp)).trans (heap_new0 w _))
      clear hb
      go_wp2_with fail
      refine (lawFault_any h _ _ _ _ ((HW.out.alloc _).below HB5.out (Nat.le_refl _)) ((HT.out.alloc _).below HB5.out (Nat.le_refl _)) ((HX.out.alloc _).below HB5.out (Nat.le_refl _))).mono ?_
      rintro e W6 ⟨rfl, hb⟩
      rw [HF.out]
      (try clear hcr hsr)
      have HD6 := Lib.hid hb
      have HB6 := Lib.hid (bgo HB5.out hb)
      obtain ⟨hcr, _, hsr⟩ := cells_of_block ((HB6.out.block w.heap.size (by simp)).trans (heap_new0 w _))
      clear hb
      go_wp2_with fail
      refine (awake_any _).mono ?_
      rintro e W7 ⟨rfl, hb⟩
      (try clear hcr hsr)
      have HD7 := Lib.hid hb
      have HB7 := Lib.hid (bgo HB6.out hb)
      obtain ⟨hcr, _, hsr⟩ := cells_of_block ((HB7.out.block w.heap.size (by simp)).trans (heap_new0 w _))
      clear hb
      go_wp2_with fail
      go_returns
      exact ⟨by simp, bgo (bgoAlloc (Below.refl _ _) _) HB7.out⟩
    case pos =>
      subst hf0
      have hS := sound_of hf
      have hx5 := hS.rdgs
      have HS := Lib.hid hS
      have HF := Lib.hid hf
      obtain ⟨l, hl⟩ : ∃ l, leaveL h = l := ⟨_, rfl⟩
      have hL := Lib.hid hl
      have HLN := Lib.hid (show (l == l) = true from by simp)
      clear hS hf hl
      cases hfs : firstS h with
      | none =>
        have HE := Lib.hid (show firstV h = 0 ∧ firstE h = 7 ∧ refFirstV h = -1 from ⟨by rw [firstV, if_neg (by rw [HF.out]; simp), hfs]; rfl, by rw [firstE, if_neg (by rw [HF.out]; simp), hfs]; rfl, by unfold refFirstV; rw [hfs]⟩)
        clear hfs
        go_enter Try.func4, Try.ntmps4
        go_wp2_with fail
        refine (Thin_any h _ _ _ _ ((HW.out.alloc _).below HB0.out (Nat.le_refl _)) ((HT.out.alloc _).below HB0.out (Nat.le_refl _)) ((HX.out.alloc _).below HB0.out (Nat.le_refl _))).mono ?_
        rw [HTH.out]
        rintro e W1 ⟨rfl, hb⟩
        (try clear hcr hsr)
        have HD1 := Lib.hid hb
        have HB1 := Lib.hid (bgo HB0.out hb)
        obtain ⟨hcr, _, hsr⟩ := cells_of_block ((HB1.out.block w.heap.size (by simp)).trans (heap_new0 w _))
        clear hb
        go_wp2_with fail
        refine (Heap_any h _ _ _ _ ((HW.out.alloc _).below HB1.out (Nat.le_refl _)) ((HT.out.alloc _).below HB1.out (Nat.le_refl _)) ((HX.out.alloc _).below HB1.out (Nat.le_refl _)) (by omega) (by omega) (by omega)).mono ?_
        rintro e W2 ⟨a2, b2, c2, rfl, h1, h2, h3, hb⟩
        (try clear hcr hsr)
        have HD2 := Lib.hid hb
        have HB2 := Lib.hid (bgo HB1.out hb)
        obtain ⟨hcr, _, hsr⟩ := cells_of_block ((HB2.out.block w.heap.size (by simp)).trans (heap_new0 w _))
        clear hb
        have HH2 := Lib.hid (And.intro h1 (And.intro h2 h3))
        clear h1 h2 h3
        go_wp2_with fail
        refine (First_any h _ _ _ _ HH2.out.1 HH2.out.2.1 HH2.out.2.2).mono ?_
        rintro e W3 ⟨rfl, hb⟩
        rw [HE.out.1, HE.out.2.1]
        (try clear hcr hsr)
        have HD3 := Lib.hid hb
        have HB3 := Lib.hid (bgo HB2.out hb)
        obtain ⟨hcr, _, hsr⟩ := cells_of_block ((HB3.out.block w.heap.size (by simp)).trans (heap_new0 w _))
        clear hb
        go_wp2_with fail
        refine (Heap_any h _ _ _ _ ((HW.out.alloc _).below HB3.out (Nat.le_refl _)) ((HT.out.alloc _).below HB3.out (Nat.le_refl _)) ((HX.out.alloc _).below HB3.out (Nat.le_refl _)) (by omega) (by omega) (by omega)).mono ?_
        rintro e W4 ⟨a4, b4, c4, rfl, h1, h2, h3, hb⟩
        (try clear hcr hsr)
        have HD4 := Lib.hid hb
        have HB4 := Lib.hid (bgo HB3.out hb)
        obtain ⟨hcr, _, hsr⟩ := cells_of_block ((HB4.out.block w.heap.size (by simp)).trans (heap_new0 w _))
        clear hb
        have HH4 := Lib.hid (And.intro h1 (And.intro h2 h3))
        clear h1 h2 h3
        go_wp2_with fail
        refine (Leave_any h _ _ _ _ HH4.out.1 HH4.out.2.1 HH4.out.2.2).mono ?_
        rintro e W5 ⟨v, rfl, hv, hb⟩
        rw [hL.out] at hv
        rw [HF.out]
        obtain ⟨o5, c5, rfl⟩ := hv.open
        have HV5 := Lib.hid hv
        clear hv
        (try clear hcr hsr)
        have HD5 := Lib.hid hb
        have HB5 := Lib.hid (bgo HB4.out hb)
        obtain ⟨hcr, _, hsr⟩ := cells_of_block ((HB5.out.block w.heap.size (by simp)).trans (heap_new0 w _))
        clear hb
        go_wp2_with fail
        refine (lawFault_any h _ _ _ _ ((HW.out.alloc _).below HB5.out (Nat.le_refl _)) ((HT.out.alloc _).below HB5.out (Nat.le_refl _)) ((HX.out.alloc _).below HB5.out (Nat.le_refl _))).mono ?_
        rintro e W6 ⟨rfl, hb⟩
        rw [HF.out]
        (try clear hcr hsr)
        have HD6 := Lib.hid hb
        have HB6 := Lib.hid (bgo HB5.out hb)
        obtain ⟨hcr, _, hsr⟩ := cells_of_block ((HB6.out.block w.heap.size (by simp)).trans (heap_new0 w _))
        clear hb
        go_wp2_with fail
        refine (All_any h HS.out _ _ _ _ ((HW.out.alloc _).below HB6.out (Nat.le_refl _)) ((HT.out.alloc _).below HB6.out (Nat.le_refl _)) ((HX.out.alloc _).below HB6.out (Nat.le_refl _))).mono ?_
        rintro e W7 ⟨v, rfl, hv, hb⟩
        obtain ⟨o7, c7, rfl⟩ := hv.open
        have HV7 := Lib.hid hv
        clear hv
        (try clear hcr hsr)
        have HD7 := Lib.hid hb
        have HB7 := Lib.hid (bgo HB6.out hb)
        obtain ⟨hcr, _, hsr⟩ := cells_of_block ((HB7.out.block w.heap.size (by simp)).trans (heap_new0 w _))
        clear hb
        go_wp2_with fail
        refine (refLeave_any h HS.out _ _ _ _ _ ((HW.out.alloc _).below HB7.out (Nat.le_refl _)) ((HT.out.alloc _).below HB7.out (Nat.le_refl _)) ((HX.out.alloc _).below HB7.out (Nat.le_refl _)) HV7.out).mono ?_
        rintro e W8 ⟨v, rfl, hv, hb⟩
        rw [hL.out] at hv
        obtain ⟨o8, c8, rfl⟩ := hv.open
        have HV8 := Lib.hid hv
        clear hv
        (try clear hcr hsr)
        have HD8 := Lib.hid hb
        have HB8 := Lib.hid (bgo HB7.out hb)
        obtain ⟨hcr, _, hsr⟩ := cells_of_block ((HB8.out.block w.heap.size (by simp)).trans (heap_new0 w _))
        clear hb
        go_wp2_with fail
        refine (ints_any l l _ _ _ (((HV5.out.below HD6.out (Nat.le_refl _)).below HD7.out (Nat.le_refl _)).below HD8.out (Nat.le_refl _)) HV8.out).mono ?_
        rw [HLN.out]
        rintro e W9 ⟨rfl, hb⟩
        (try clear hcr hsr)
        have HD9 := Lib.hid hb
        have HB9 := Lib.hid (bgo HB8.out hb)
        obtain ⟨hcr, _, hsr⟩ := cells_of_block ((HB9.out.block w.heap.size (by simp)).trans (heap_new0 w _))
        clear hb
        go_wp2_with fail
        refine (refFirst_any h HS.out _ _ _ _ _ ((HW.out.alloc _).below HB9.out (Nat.le_refl _)) ((HT.out.alloc _).below HB9.out (Nat.le_refl _)) ((HX.out.alloc _).below HB9.out (Nat.le_refl _)) ((HV7.out.below HD8.out (Nat.le_refl _)).below HD9.out (Nat.le_refl _))).mono ?_
        rw [HE.out.2.2]
        rintro e W10 ⟨rfl, hb⟩
        (try clear hcr hsr)
        have HD10 := Lib.hid hb
        have HB10 := Lib.hid (bgo HB9.out hb)
        obtain ⟨hcr, _, hsr⟩ := cells_of_block ((HB10.out.block w.heap.size (by simp)).trans (heap_new0 w _))
        clear hb
        go_wp2_with fail
        refine (awake_any _).mono ?_
        rintro e W11 ⟨rfl, hb⟩
        (try clear hcr hsr)
        have HD11 := Lib.hid hb
        have HB11 := Lib.hid (bgo HB10.out hb)
        obtain ⟨hcr, _, hsr⟩ := cells_of_block ((HB11.out.block w.heap.size (by simp)).trans (heap_new0 w _))
        clear hb
        go_wp2_with fail
        go_returns
        exact ⟨by simp, bgo (bgoAlloc (Below.refl _ _) _) HB11.out⟩
      | some n =>
        obtain ⟨hn, _, _⟩ := first_some HS.out hfs
        have HE := Lib.hid (show firstV h = (n : Int) ∧ firstE h = 0 ∧ refFirstV h = (n : Int) from ⟨by rw [firstV, if_neg (by rw [HF.out]; simp), hfs]; rfl, by rw [firstE, if_neg (by rw [HF.out]; simp), hfs]; rfl, by unfold refFirstV; rw [hfs]⟩)
        clear hfs
        have hd1 : decide ((0 : Int) ≤ (n : Int)) = true := by simp
        go_enter Try.func4, Try.ntmps4
        go_wp2_with fail
        refine (Thin_any h _ _ _ _ ((HW.out.alloc _).below HB0.out (Nat.le_refl _)) ((HT.out.alloc _).below HB0.out (Nat.le_refl _)) ((HX.out.alloc _).below HB0.out (Nat.le_refl _))).mono ?_
        rw [HTH.out]
        rintro e W1 ⟨rfl, hb⟩
        (try clear hcr hsr)
        have HD1 := Lib.hid hb
        have HB1 := Lib.hid (bgo HB0.out hb)
        obtain ⟨hcr, _, hsr⟩ := cells_of_block ((HB1.out.block w.heap.size (by simp)).trans (heap_new0 w _))
        clear hb
        go_wp2_with fail
        refine (Heap_any h _ _ _ _ ((HW.out.alloc _).below HB1.out (Nat.le_refl _)) ((HT.out.alloc _).below HB1.out (Nat.le_refl _)) ((HX.out.alloc _).below HB1.out (Nat.le_refl _)) (by omega) (by omega) (by omega)).mono ?_
        rintro e W2 ⟨a2, b2, c2, rfl, h1, h2, h3, hb⟩
        (try clear hcr hsr)
        have HD2 := Lib.hid hb
        have HB2 := Lib.hid (bgo HB1.out hb)
        obtain ⟨hcr, _, hsr⟩ := cells_of_block ((HB2.out.block w.heap.size (by simp)).trans (heap_new0 w _))
        clear hb
        have HH2 := Lib.hid (And.intro h1 (And.intro h2 h3))
        clear h1 h2 h3
        go_wp2_with fail
        refine (First_any h _ _ _ _ HH2.out.1 HH2.out.2.1 HH2.out.2.2).mono ?_
        rintro e W3 ⟨rfl, hb⟩
        rw [HE.out.1, HE.out.2.1]
        (try clear hcr hsr)
        have HD3 := Lib.hid hb
        have HB3 := Lib.hid (bgo HB2.out hb)
        obtain ⟨hcr, _, hsr⟩ := cells_of_block ((HB3.out.block w.heap.size (by simp)).trans (heap_new0 w _))
        clear hb
        go_wp2_with fail
        refine (Heap_any h _ _ _ _ ((HW.out.alloc _).below HB3.out (Nat.le_refl _)) ((HT.out.alloc _).below HB3.out (Nat.le_refl _)) ((HX.out.alloc _).below HB3.out (Nat.le_refl _)) (by omega) (by omega) (by omega)).mono ?_
        rintro e W4 ⟨a4, b4, c4, rfl, h1, h2, h3, hb⟩
        (try clear hcr hsr)
        have HD4 := Lib.hid hb
        have HB4 := Lib.hid (bgo HB3.out hb)
        obtain ⟨hcr, _, hsr⟩ := cells_of_block ((HB4.out.block w.heap.size (by simp)).trans (heap_new0 w _))
        clear hb
        have HH4 := Lib.hid (And.intro h1 (And.intro h2 h3))
        clear h1 h2 h3
        go_wp2_with fail
        refine (Leave_any h _ _ _ _ HH4.out.1 HH4.out.2.1 HH4.out.2.2).mono ?_
        rintro e W5 ⟨v, rfl, hv, hb⟩
        rw [hL.out] at hv
        rw [HF.out]
        obtain ⟨o5, c5, rfl⟩ := hv.open
        have HV5 := Lib.hid hv
        clear hv
        (try clear hcr hsr)
        have HD5 := Lib.hid hb
        have HB5 := Lib.hid (bgo HB4.out hb)
        obtain ⟨hcr, _, hsr⟩ := cells_of_block ((HB5.out.block w.heap.size (by simp)).trans (heap_new0 w _))
        clear hb
        go_wp2_with fail
        refine (lawFault_any h _ _ _ _ ((HW.out.alloc _).below HB5.out (Nat.le_refl _)) ((HT.out.alloc _).below HB5.out (Nat.le_refl _)) ((HX.out.alloc _).below HB5.out (Nat.le_refl _))).mono ?_
        rintro e W6 ⟨rfl, hb⟩
        rw [HF.out]
        (try clear hcr hsr)
        have HD6 := Lib.hid hb
        have HB6 := Lib.hid (bgo HB5.out hb)
        obtain ⟨hcr, _, hsr⟩ := cells_of_block ((HB6.out.block w.heap.size (by simp)).trans (heap_new0 w _))
        clear hb
        go_wp2_with fail
        refine (All_any h HS.out _ _ _ _ ((HW.out.alloc _).below HB6.out (Nat.le_refl _)) ((HT.out.alloc _).below HB6.out (Nat.le_refl _)) ((HX.out.alloc _).below HB6.out (Nat.le_refl _))).mono ?_
        rintro e W7 ⟨v, rfl, hv, hb⟩
        obtain ⟨o7, c7, rfl⟩ := hv.open
        have HV7 := Lib.hid hv
        clear hv
        (try clear hcr hsr)
        have HD7 := Lib.hid hb
        have HB7 := Lib.hid (bgo HB6.out hb)
        obtain ⟨hcr, _, hsr⟩ := cells_of_block ((HB7.out.block w.heap.size (by simp)).trans (heap_new0 w _))
        clear hb
        go_wp2_with fail
        refine (refLeave_any h HS.out _ _ _ _ _ ((HW.out.alloc _).below HB7.out (Nat.le_refl _)) ((HT.out.alloc _).below HB7.out (Nat.le_refl _)) ((HX.out.alloc _).below HB7.out (Nat.le_refl _)) HV7.out).mono ?_
        rintro e W8 ⟨v, rfl, hv, hb⟩
        rw [hL.out] at hv
        obtain ⟨o8, c8, rfl⟩ := hv.open
        have HV8 := Lib.hid hv
        clear hv
        (try clear hcr hsr)
        have HD8 := Lib.hid hb
        have HB8 := Lib.hid (bgo HB7.out hb)
        obtain ⟨hcr, _, hsr⟩ := cells_of_block ((HB8.out.block w.heap.size (by simp)).trans (heap_new0 w _))
        clear hb
        go_wp2_with fail
        refine (ints_any l l _ _ _ (((HV5.out.below HD6.out (Nat.le_refl _)).below HD7.out (Nat.le_refl _)).below HD8.out (Nat.le_refl _)) HV8.out).mono ?_
        rw [HLN.out]
        rintro e W9 ⟨rfl, hb⟩
        (try clear hcr hsr)
        have HD9 := Lib.hid hb
        have HB9 := Lib.hid (bgo HB8.out hb)
        obtain ⟨hcr, _, hsr⟩ := cells_of_block ((HB9.out.block w.heap.size (by simp)).trans (heap_new0 w _))
        clear hb
        go_wp2_with fail
        refine (refFirst_any h HS.out _ _ _ _ _ ((HW.out.alloc _).below HB9.out (Nat.le_refl _)) ((HT.out.alloc _).below HB9.out (Nat.le_refl _)) ((HX.out.alloc _).below HB9.out (Nat.le_refl _)) ((HV7.out.below HD8.out (Nat.le_refl _)).below HD9.out (Nat.le_refl _))).mono ?_
        rw [HE.out.2.2]
        rintro e W10 ⟨rfl, hb⟩
        (try clear hcr hsr)
        have HD10 := Lib.hid hb
        have HB10 := Lib.hid (bgo HB9.out hb)
        obtain ⟨hcr, _, hsr⟩ := cells_of_block ((HB10.out.block w.heap.size (by simp)).trans (heap_new0 w _))
        clear hb
        go_wp2_with fail
        refine (awake_any _).mono ?_
        rintro e W11 ⟨rfl, hb⟩
        (try clear hcr hsr)
        have HD11 := Lib.hid hb
        have HB11 := Lib.hid (bgo HB10.out hb)
        obtain ⟨hcr, _, hsr⟩ := cells_of_block ((HB11.out.block w.heap.size (by simp)).trans (heap_new0 w _))
        clear hb
        go_wp2_with fail
        go_returns
        exact ⟨by simp, bgo (bgoAlloc (Below.refl _ _) _) HB11.out⟩

end Go.Proofs.Ytoibfafmnaooaaa
