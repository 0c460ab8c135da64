/-
  The walk of CouchFirst: whatever the heap, it returns true; nothing that was there has turned.
-/
import Derived.WalkKit
import Derived.WalkLawsBesides
import Derived.WalkSpells
import Derived.Outline
import Derived.Handy
import Derived.KernelRfl
import Derived.Lib.Hide
import Derived.Test.YtoibfafmnaooaaaW31
import Derived.Test.YtoibfafmnaooaaaR3
import Derived.Test.YtoibfafmnaooaaaR4
import Derived.Test.YtoibfafmnaooaaaR6
namespace Go.Proofs.Ytoibfafmnaooaaa
open Go.RowKit Go.RG Go.SL Go.Shelf Cou
set_option maxHeartbeats 400000
set_option maxRecDepth 10000

theorem ask_of {h : HeapD} (hS : Sound h) : askErr h [] = if (truthsL h []).isEmpty then 11 else 0 := by
  unfold askErr
  rw [if_neg (by rw [fault_sound hS]; simp), if_neg (by simp [isTurns, turnsFrom])]
theorem ask_ok {h : HeapD} (hS : Sound h) (ht : (truthsL h []).isEmpty = false) : askErr h [] = 0 := by rw [ask_of hS, ht]; rfl
theorem ask_no {h : HeapD} (hS : Sound h) (ht : (truthsL h []).isEmpty = true) : askErr h [] = 11 := by rw [ask_of hS, ht]; rfl

theorem pow_cast (n : Nat) : (2 : Int) ^ n - 1 = ((2 ^ n - 1 : Nat) : Int) := by
  have := Nat.one_le_two_pow (n := n)
  rw [Int.natCast_sub this]
  simp
theorem pow_cast2 (n : Nat) : 2 * (2 : Int) ^ n - 1 = ((2 ^ (n + 1) - 1 : Nat) : Int) := by
  rw [← pow_cast, Int.pow_succ]
  omega
theorem some_at (h : HeapD) (wv tv xv' : Value) (bits : Int) (m : Nat) (w : World) (hb : bits = (m : Int)) (hw : PairsAt w wv h.wet) (ht : IntsAt w tv h.turns) (hx : TriplesAt w xv' h.readings) (hl : h.readings.length ≤ 7) (hm : bits ≤ 1000) :
    Calls Try.prog 46 #[hv h wv tv xv', iv bits] w (PSome h m wv tv w) := by
  subst hb
  exact lawSome_any h wv tv xv' m w hw ht hx hl hm

set_option maxHeartbeats 4000000 in
theorem CouchFirst_any (h : HeapD) (wv tv xv' : Value) (w : World) (hw : PairsAt w wv h.wet) (ht : IntsAt w tv h.turns) (hx : TriplesAt w xv' h.readings) :
    Calls Try.prog 10 #[hv h wv tv xv'] w (PV (.bool true) w) := by
  obtain ⟨ow, cw, rfl⟩ := hw.open
  obtain ⟨ot, ct, rfl⟩ := ht.open
  obtain ⟨ox, cx, rfl⟩ := hx.open
  have HW := Lib.hid hw
  have HT := Lib.hid ht
  have HX := Lib.hid hx
  clear hw ht hx
  have HB0 := Lib.hid (Below.refl (w.alloc (.cells #[.int .i64 h.last, .int .i64 h.size, .int .i64 h.cool, .int .i64 h.die, .int .i64 h.burn, .int .i64 h.start.1, .int .i64 h.start.2, .slice ow h.wet.length cw, .slice ot h.turns.length ct, .slice ox h.readings.length cx] 28)).heap.size (w.alloc (.cells #[.int .i64 h.last, .int .i64 h.size, .int .i64 h.cool, .int .i64 h.die, .int .i64 h.burn, .int .i64 h.start.1, .int .i64 h.start.2, .slice ow h.wet.length cw, .slice ot h.turns.length ct, .slice ox h.readings.length cx] 28)))
  cases hr : readyB h
  case false =>
    have HR := Lib.hid hr
    clear hr
    go_enter Try.func10, Try.ntmps10
    go_wp2_with fail
    refine (ready_any h _ _ _ _ ((HW.out.alloc _).below HB0.out (Nat.le_refl _)) ((HT.out.alloc _).below HB0.out (Nat.le_refl _)) ((HX.out.alloc _).below HB0.out (Nat.le_refl _))).mono ?_
    rw [HR.out]
    rintro e W1 ⟨rfl, hb⟩
    (try clear hcr hsr)
    have HD1 := Lib.hid hb
    have HB1 := Lib.hid (bgo HB0.out hb)
    obtain ⟨hcr, _, hsr⟩ := cells_of_block ((HB1.out.block w.heap.size (by simp)).trans (heap_new0 w _))
    clear hb
    go_wp2_with fail
    refine (awake_any _).mono ?_
    rintro e W2 ⟨rfl, hb⟩
    (try clear hcr hsr)
    have HD2 := Lib.hid hb
    have HB2 := Lib.hid (bgo HB1.out hb)
    obtain ⟨hcr, _, hsr⟩ := cells_of_block ((HB2.out.block w.heap.size (by simp)).trans (heap_new0 w _))
    clear hb
    go_wp2_with fail
    go_returns
    exact ⟨by simp, bgo (bgoAlloc (Below.refl _ _) _) HB2.out⟩
  case true =>
    obtain ⟨hS, hf0, _, hl12⟩ := ready_sound hr
    have hw10 : h.wet.length ≤ 10 := by have := hS.wetLen; have := hS.last9; omega
    have hx5 := hS.rdgs
    have HR := Lib.hid hr
    have HS := Lib.hid hS
    have HF0 := Lib.hid hf0
    clear hr hS hf0
    cases hfs : firstS h with
    | none =>
      have HE := Lib.hid (show firstV h = 0 ∧ firstE h = 7 ∧ askErr h [] = 0 from ⟨by simp [firstV, HF0.out, hfs, optV], by simp [firstE, HF0.out, hfs, optE], ask_ok HS.out (first_none HS.out hfs)⟩)
      clear hfs
      go_enter Try.func10, Try.ntmps10
      go_wp2_with fail
      refine (ready_any h _ _ _ _ ((HW.out.alloc _).below HB0.out (Nat.le_refl _)) ((HT.out.alloc _).below HB0.out (Nat.le_refl _)) ((HX.out.alloc _).below HB0.out (Nat.le_refl _))).mono ?_
      rw [HR.out]
      rintro e W1 ⟨rfl, hb⟩
      (try clear hcr hsr)
      have HD1 := Lib.hid hb
      have HB1 := Lib.hid (bgo HB0.out hb)
      obtain ⟨hcr, _, hsr⟩ := cells_of_block ((HB1.out.block w.heap.size (by simp)).trans (heap_new0 w _))
      clear hb
      go_wp2_with fail
      refine (Heap_any h _ _ _ _ ((HW.out.alloc _).below HB1.out (Nat.le_refl _)) ((HT.out.alloc _).below HB1.out (Nat.le_refl _)) ((HX.out.alloc _).below HB1.out (Nat.le_refl _)) (by omega) (by omega) (by omega)).mono ?_
      rintro e W2 ⟨a2, b2, c2, rfl, h1, h2, h3, hb⟩
      (try clear hcr hsr)
      have HD2 := Lib.hid hb
      have HB2 := Lib.hid (bgo HB1.out hb)
      obtain ⟨hcr, _, hsr⟩ := cells_of_block ((HB2.out.block w.heap.size (by simp)).trans (heap_new0 w _))
      clear hb
      have HH2 := Lib.hid (And.intro h1 (And.intro h2 h3))
      clear h1 h2 h3
      go_wp2_with fail
      refine (First_any h _ _ _ _ HH2.out.1 HH2.out.2.1 HH2.out.2.2).mono ?_
      rintro e W3 ⟨rfl, hb⟩
      rw [HE.out.1, HE.out.2.1]
      (try clear hcr hsr)
      have HD3 := Lib.hid hb
      have HB3 := Lib.hid (bgo HB2.out hb)
      obtain ⟨hcr, _, hsr⟩ := cells_of_block ((HB3.out.block w.heap.size (by simp)).trans (heap_new0 w _))
      clear hb
      go_wp2_with fail
      refine (Heap_any h _ _ _ _ ((HW.out.alloc _).below HB3.out (Nat.le_refl _)) ((HT.out.alloc _).below HB3.out (Nat.le_refl _)) ((HX.out.alloc _).below HB3.out (Nat.le_refl _)) (by omega) (by omega) (by omega)).mono ?_
      rintro e W4 ⟨a4, b4, c4, rfl, h1, h2, h3, hb⟩
      (try clear hcr hsr)
      have HD4 := Lib.hid hb
      have HB4 := Lib.hid (bgo HB3.out hb)
      obtain ⟨hcr, _, hsr⟩ := cells_of_block ((HB4.out.block w.heap.size (by simp)).trans (heap_new0 w _))
      clear hb
      have HH4 := Lib.hid (And.intro h1 (And.intro h2 h3))
      clear h1 h2 h3
      go_wp2_with fail
      refine (Bounds_any h _ _ _ (.slice none 0 0) [] _ HH4.out.1 HH4.out.2.1 HH4.out.2.2 (ints_nil _)).mono ?_
      rintro e W5 ⟨v, rfl, _, hb⟩
      rw [HE.out.2.2]
      (try clear hcr hsr)
      have HD5 := Lib.hid hb
      have HB5 := Lib.hid (bgo HB4.out hb)
      obtain ⟨hcr, _, hsr⟩ := cells_of_block ((HB5.out.block w.heap.size (by simp)).trans (heap_new0 w _))
      clear hb
      go_wp2_with fail
      refine (awake_any _).mono ?_
      rintro e W6 ⟨rfl, hb⟩
      (try clear hcr hsr)
      have HD6 := Lib.hid hb
      have HB6 := Lib.hid (bgo HB5.out hb)
      obtain ⟨hcr, _, hsr⟩ := cells_of_block ((HB6.out.block w.heap.size (by simp)).trans (heap_new0 w _))
      clear hb
      go_wp2_with fail
      go_returns
      exact ⟨by simp, bgo (bgoAlloc (Below.refl _ _) _) HB6.out⟩
    | some n =>
      obtain ⟨hn, ht1, ht2⟩ := first_some HS.out hfs
      rw [← someH_take h n (by omega)] at ht1
      rw [← someH_take h (n + 1) (by omega)] at ht2
      have HE := Lib.hid (show firstV h = (n : Int) ∧ firstE h = 0 ∧ askErr (someH h (2 ^ n - 1)) [] = 0 ∧ askErr (someH h (2 ^ (n + 1) - 1)) [] = 11 from
        ⟨by simp [firstV, HF0.out, hfs, optV], by simp [firstE, HF0.out, hfs, optE], ask_ok (some_sound HS.out _) ht1, ask_no (some_sound HS.out _) ht2⟩)
      clear hfs ht1 ht2
      have hnI : (n : Int) ≤ (h.readings.length : Int) - 1 := by omega
      have hn5 : n ≤ 5 := by omega
      obtain ⟨hp1, hp2⟩ := pow_bd hn5
      have hin : inB (n : Int) 0 ((h.readings.length : Int) - 1) = true := by simp [inB]; omega
      go_enter Try.func10, Try.ntmps10
      go_wp2_with fail
      refine (ready_any h _ _ _ _ ((HW.out.alloc _).below HB0.out (Nat.le_refl _)) ((HT.out.alloc _).below HB0.out (Nat.le_refl _)) ((HX.out.alloc _).below HB0.out (Nat.le_refl _))).mono ?_
      rw [HR.out]
      rintro e W1 ⟨rfl, hb⟩
      (try clear hcr hsr)
      have HD1 := Lib.hid hb
      have HB1 := Lib.hid (bgo HB0.out hb)
      obtain ⟨hcr, _, hsr⟩ := cells_of_block ((HB1.out.block w.heap.size (by simp)).trans (heap_new0 w _))
      clear hb
      go_wp2_with fail
      refine (Heap_any h _ _ _ _ ((HW.out.alloc _).below HB1.out (Nat.le_refl _)) ((HT.out.alloc _).below HB1.out (Nat.le_refl _)) ((HX.out.alloc _).below HB1.out (Nat.le_refl _)) (by omega) (by omega) (by omega)).mono ?_
      rintro e W2 ⟨a2, b2, c2, rfl, h1, h2, h3, hb⟩
      (try clear hcr hsr)
      have HD2 := Lib.hid hb
      have HB2 := Lib.hid (bgo HB1.out hb)
      obtain ⟨hcr, _, hsr⟩ := cells_of_block ((HB2.out.block w.heap.size (by simp)).trans (heap_new0 w _))
      clear hb
      have HH2 := Lib.hid (And.intro h1 (And.intro h2 h3))
      clear h1 h2 h3
      go_wp2_with fail
      refine (First_any h _ _ _ _ HH2.out.1 HH2.out.2.1 HH2.out.2.2).mono ?_
      rintro e W3 ⟨rfl, hb⟩
      rw [HE.out.1, HE.out.2.1]
      (try clear hcr hsr)
      have HD3 := Lib.hid hb
      have HB3 := Lib.hid (bgo HB2.out hb)
      obtain ⟨hcr, _, hsr⟩ := cells_of_block ((HB3.out.block w.heap.size (by simp)).trans (heap_new0 w _))
      clear hb
      go_wp2_with fail
      refine (In_any _ _ _ _).mono ?_
      rw [hin]
      rintro e W4 ⟨rfl, hb⟩
      (try clear hcr hsr)
      have HD4 := Lib.hid hb
      have HB4 := Lib.hid (bgo HB3.out hb)
      obtain ⟨hcr, _, hsr⟩ := cells_of_block ((HB4.out.block w.heap.size (by simp)).trans (heap_new0 w _))
      clear hb
      go_wp2_with fail
      refine (some_at h _ _ _ (2 ^ n - 1) (2 ^ n - 1) _ (pow_cast n) ((HW.out.alloc _).below HB4.out (Nat.le_refl _)) ((HT.out.alloc _).below HB4.out (Nat.le_refl _)) ((HX.out.alloc _).below HB4.out (Nat.le_refl _)) (by omega) (by omega)).mono ?_
      rintro e W5 ⟨c5, rfl, hc5, hb⟩
      (try clear hcr hsr)
      have HD5 := Lib.hid hb
      have HB5 := Lib.hid (bgo HB4.out hb)
      obtain ⟨hcr, _, hsr⟩ := cells_of_block ((HB5.out.block w.heap.size (by simp)).trans (heap_new0 w _))
      clear hb
      have HC5 := Lib.hid hc5
      clear hc5
      go_wp2_with fail
      refine (Heap_any (someH h (2 ^ n - 1)) _ _ _ _ ((HW.out.alloc _).below HB5.out (Nat.le_refl _)) ((HT.out.alloc _).below HB5.out (Nat.le_refl _)) HC5.out (by show h.wet.length ≤ 1000; omega) (by show h.turns.length ≤ 1000; omega) (by have := someTo_len (2 ^ n - 1) h.readings.length h.readings; show (someTo (2 ^ n - 1) h.readings h.readings.length).length ≤ 1000; omega)).mono ?_
      rintro e W6 ⟨a6, b6, c6, rfl, h1, h2, h3, hb⟩
      (try clear hcr hsr)
      have HD6 := Lib.hid hb
      have HB6 := Lib.hid (bgo HB5.out hb)
      obtain ⟨hcr, _, hsr⟩ := cells_of_block ((HB6.out.block w.heap.size (by simp)).trans (heap_new0 w _))
      clear hb
      have HH6 := Lib.hid (And.intro h1 (And.intro h2 h3))
      clear h1 h2 h3
      go_wp2_with fail
      refine (Bounds_any (someH h (2 ^ n - 1)) _ _ _ (.slice none 0 0) [] _ HH6.out.1 HH6.out.2.1 HH6.out.2.2 (ints_nil _)).mono ?_
      rintro e W7 ⟨v, rfl, _, hb⟩
      rw [HE.out.2.2.1]
      (try clear hcr hsr)
      have HD7 := Lib.hid hb
      have HB7 := Lib.hid (bgo HB6.out hb)
      obtain ⟨hcr, _, hsr⟩ := cells_of_block ((HB7.out.block w.heap.size (by simp)).trans (heap_new0 w _))
      clear hb
      go_wp2_with fail
      refine (some_at h _ _ _ (2 * 2 ^ n - 1) (2 ^ (n + 1) - 1) _ (pow_cast2 n) ((HW.out.alloc _).below HB7.out (Nat.le_refl _)) ((HT.out.alloc _).below HB7.out (Nat.le_refl _)) ((HX.out.alloc _).below HB7.out (Nat.le_refl _)) (by omega) (by omega)).mono ?_
      rintro e W8 ⟨c8, rfl, hc8, hb⟩
      (try clear hcr hsr)
      have HD8 := Lib.hid hb
      have HB8 := Lib.hid (bgo HB7.out hb)
      obtain ⟨hcr, _, hsr⟩ := cells_of_block ((HB8.out.block w.heap.size (by simp)).trans (heap_new0 w _))
      clear hb
      have HC8 := Lib.hid hc8
      clear hc8
      go_wp2_with fail
      refine (Heap_any (someH h (2 ^ (n + 1) - 1)) _ _ _ _ ((HW.out.alloc _).below HB8.out (Nat.le_refl _)) ((HT.out.alloc _).below HB8.out (Nat.le_refl _)) HC8.out (by show h.wet.length ≤ 1000; omega) (by show h.turns.length ≤ 1000; omega) (by have := someTo_len (2 ^ (n + 1) - 1) h.readings.length h.readings; show (someTo (2 ^ (n + 1) - 1) h.readings h.readings.length).length ≤ 1000; omega)).mono ?_
      rintro e W9 ⟨a9, b9, c9, rfl, h1, h2, h3, hb⟩
      (try clear hcr hsr)
      have HD9 := Lib.hid hb
      have HB9 := Lib.hid (bgo HB8.out hb)
      obtain ⟨hcr, _, hsr⟩ := cells_of_block ((HB9.out.block w.heap.size (by simp)).trans (heap_new0 w _))
      clear hb
      have HH9 := Lib.hid (And.intro h1 (And.intro h2 h3))
      clear h1 h2 h3
      go_wp2_with fail
      refine (Bounds_any (someH h (2 ^ (n + 1) - 1)) _ _ _ (.slice none 0 0) [] _ HH9.out.1 HH9.out.2.1 HH9.out.2.2 (ints_nil _)).mono ?_
      rintro e W10 ⟨v, rfl, _, hb⟩
      rw [HE.out.2.2.2]
      (try clear hcr hsr)
      have HD10 := Lib.hid hb
      have HB10 := Lib.hid (bgo HB9.out hb)
      obtain ⟨hcr, _, hsr⟩ := cells_of_block ((HB10.out.block w.heap.size (by simp)).trans (heap_new0 w _))
      clear hb
      go_wp2_with fail
      refine (awake_any _).mono ?_
      rintro e W11 ⟨rfl, hb⟩
      (try clear hcr hsr)
      have HD11 := Lib.hid hb
      have HB11 := Lib.hid (bgo HB10.out hb)
      obtain ⟨hcr, _, hsr⟩ := cells_of_block ((HB11.out.block w.heap.size (by simp)).trans (heap_new0 w _))
      clear hb
      go_wp2_with fail
      go_returns
      exact ⟨by simp, bgo (bgoAlloc (Below.refl _ _) _) HB11.out⟩

end Go.Proofs.Ytoibfafmnaooaaa
