/-
  The walk of CouchDanger: whatever the heap, the truth's number and the turnings by bits, it returns true; nothing that was there has turned.
-/
import Derived.WalkKit
import Derived.WalkLawsBesides
import Derived.WalkSpells
import Derived.Outline
import Derived.Handy
import Derived.KernelRfl
import Derived.Lib.Hide
import Derived.Test.YtoibfafmnaooaaaSE
namespace Go.Proofs.Ytoibfafmnaooaaa
open Go.RowKit Go.RG Go.SL Go.Shelf Cou
set_option maxHeartbeats 400000
set_option maxRecDepth 10000

set_option maxHeartbeats 4000000 in
theorem CouchDanger_any (h : HeapD) (wv tv xv' : Value) (wh bs : Nat) (w : World) (hw : PairsAt w wv h.wet) (ht : IntsAt w tv h.turns) (hx : TriplesAt w xv' h.readings) (hwh : (wh : Int) ≤ 65535) (hbs : (bs : Int) ≤ 65535) :
    Calls Try.prog 7 #[hv h wv tv xv', .int .u16 wh, .int .u16 bs] w (PV (.bool true) w) := by
  obtain ⟨ow, cw, rfl⟩ := hw.open
  obtain ⟨ot, ct, rfl⟩ := ht.open
  obtain ⟨ox, cx, rfl⟩ := hx.open
  have HW := Lib.hid hw
  have HT := Lib.hid ht
  have HX := Lib.hid hx
  clear hw ht hx
  have HB0 := Lib.hid (Below.refl (w.alloc (.cells #[.int .i64 h.last, .int .i64 h.size, .int .i64 h.cool, .int .i64 h.die, .int .i64 h.burn, .int .i64 h.start.1, .int .i64 h.start.2, .slice ow h.wet.length cw, .slice ot h.turns.length ct, .slice ox h.readings.length cx] 28)).heap.size (w.alloc (.cells #[.int .i64 h.last, .int .i64 h.size, .int .i64 h.cool, .int .i64 h.die, .int .i64 h.burn, .int .i64 h.start.1, .int .i64 h.start.2, .slice ow h.wet.length cw, .slice ot h.turns.length ct, .slice ox h.readings.length cx] 28)))
  cases hry : readyB h
  case false =>
    have HR := Lib.hid hry
    clear hry
    go_enter Try.func7, Try.ntmps7
    go_wp2_with fail
    refine (ready_any h _ _ _ _ ((HW.out.alloc _).below HB0.out (Nat.le_refl _)) ((HT.out.alloc _).below HB0.out (Nat.le_refl _)) ((HX.out.alloc _).below HB0.out (Nat.le_refl _))).mono ?_
    rw [HR.out]
    rintro e W1 ⟨rfl, hb⟩
    (try clear hcr hsr)
    have HD1 := Lib.hid hb
    have HB1 := Lib.hid (bgo HB0.out hb)
    obtain ⟨hcr, _, hsr⟩ := cells_of_block ((HB1.out.block w.heap.size (by simp)).trans (heap_new0 w _))
    clear hb
    go_wp2_with fail
    refine (awake_any _).mono ?_
    rintro e W2 ⟨rfl, hb⟩
    (try clear hcr hsr)
    have HD2 := Lib.hid hb
    have HB2 := Lib.hid (bgo HB1.out hb)
    obtain ⟨hcr, _, hsr⟩ := cells_of_block ((HB2.out.block w.heap.size (by simp)).trans (heap_new0 w _))
    clear hb
    go_wp2_with fail
    go_returns
    exact ⟨by simp, bgo (bgoAlloc (Below.refl _ _) _) HB2.out⟩
  obtain ⟨hS, hf0, _, hl12⟩ := ready_sound hry
  have hw10 : h.wet.length ≤ 10 := by have := hS.wetLen; have := hS.last9; omega
  have hx5 := hS.rdgs
  have hl0 := hS.last0
  have hl9 := hS.last9
  have HR := Lib.hid hry
  have HS := Lib.hid hS
  have htu := turned_turns (h := h) hl0 bs
  have hTL : (turnedL h bs).length ≤ 10 := by
    have := ((turns_inc hl0 _).1 htu).len
    omega
  cases hte : (truthsL h []).isEmpty
  case true =>
    have ha : askErr h (turnedL h bs) = 11 := by rw [ask_turns hS htu, hte]; rfl
    obtain ⟨ab1, ab2, ab3, _⟩ := ask_bad ha (by decide)
    have HAB := Lib.hid (And.intro ab1 (And.intro ab2 ab3))
    have HFE := Lib.hid (fear_bad ha (by decide))
    have hnil : (truthsR h).length = 0 := by
      rw [List.length_eq_zero_iff, List.eq_nil_iff_forall_not_mem]
      intro t hm
      have := (truthsR_mem hS t).1 hm
      rw [List.isEmpty_iff.1 hte] at this
      cases this
    clear hry hS hf0 htu ha hte ab1 ab2 ab3
    go_enter Try.func7, Try.ntmps7
    go_wp2_with fail
    refine (ready_any h _ _ _ _ ((HW.out.alloc _).below HB0.out (Nat.le_refl _)) ((HT.out.alloc _).below HB0.out (Nat.le_refl _)) ((HX.out.alloc _).below HB0.out (Nat.le_refl _))).mono ?_
    rw [HR.out]
    rintro e W1 ⟨rfl, hb⟩
    (try clear hcr hsr)
    have HD1 := Lib.hid hb
    have HB1 := Lib.hid (bgo HB0.out hb)
    obtain ⟨hcr, _, hsr⟩ := cells_of_block ((HB1.out.block w.heap.size (by simp)).trans (heap_new0 w _))
    clear hb
    go_wp2_with fail
    refine (turned_any h _ _ _ bs _ hl0 hl9 hbs).mono ?_
    rintro e W2 ⟨v, rfl, hv, hb⟩
    obtain ⟨o2, k2, rfl⟩ := hv.open
    have HV2 := Lib.hid hv
    clear hv
    (try clear hcr hsr)
    have HD2 := Lib.hid hb
    have HB2 := Lib.hid (bgo HB1.out hb)
    obtain ⟨hcr, _, hsr⟩ := cells_of_block ((HB2.out.block w.heap.size (by simp)).trans (heap_new0 w _))
    clear hb
    go_wp2_with fail
    refine (Heap_any h _ _ _ _ ((HW.out.alloc _).below HB2.out (Nat.le_refl _)) ((HT.out.alloc _).below HB2.out (Nat.le_refl _)) ((HX.out.alloc _).below HB2.out (Nat.le_refl _)) (by omega) (by omega) (by omega)).mono ?_
    rintro e W3 ⟨a3, b3, c3, rfl, h1, h2, h3, hb⟩
    (try clear hcr hsr)
    have HD3 := Lib.hid hb
    have HB3 := Lib.hid (bgo HB2.out hb)
    obtain ⟨hcr, _, hsr⟩ := cells_of_block ((HB3.out.block w.heap.size (by simp)).trans (heap_new0 w _))
    clear hb
    have HH3 := Lib.hid (And.intro h1 (And.intro h2 h3))
    clear h1 h2 h3
    go_wp2_with fail
    refine (list_any (turnedL h bs) _ _ (HV2.out.below HD3.out (Nat.le_refl _)) (by omega)).mono ?_
    rintro e W4 ⟨v, rfl, ho, hb⟩
    obtain ⟨o4, c4, rfl⟩ := owns_slice ho
    have HV4 := Lib.hid (SlAt.of_owns ho)
    clear ho
    (try clear hcr hsr)
    have HD4 := Lib.hid hb
    have HB4 := Lib.hid (bgo HB3.out hb)
    obtain ⟨hcr, _, hsr⟩ := cells_of_block ((HB4.out.block w.heap.size (by simp)).trans (heap_new0 w _))
    clear hb
    go_wp2_with fail
    refine (Fear_any h _ _ _ _ (turnedL h bs) _ (HH3.out.1.below HD4.out (Nat.le_refl _)) (HH3.out.2.1.below HD4.out (Nat.le_refl _)) (HH3.out.2.2.below HD4.out (Nat.le_refl _)) HV4.out).mono ?_
    rintro e W5 ⟨rfl, hb⟩
    rw [HFE.out.1, HFE.out.2]
    (try clear hcr hsr)
    have HD5 := Lib.hid hb
    have HB5 := Lib.hid (bgo HB4.out hb)
    obtain ⟨hcr, _, hsr⟩ := cells_of_block ((HB5.out.block w.heap.size (by simp)).trans (heap_new0 w _))
    clear hb
    go_wp2_with fail
    refine gcallsW fun W6 hW6 => ?_
    have hb : Below W5.heap.size W5 W6 := by rw [hW6]; exact bgoAlloc (Below.refl _ _) _
    have HDB6 := Lib.hid (show W6.heap[W5.heap.size]? = some (.cells #[iv 0, .bool false, .bool false] 32 (0, 0)) from by rw [hW6]; exact heap_new0 _ _)
    clear hW6
    (try clear hcr hsr)
    have HD6 := Lib.hid hb
    have HB6 := Lib.hid (bgo HB5.out hb)
    obtain ⟨hcr, _, hsr⟩ := cells_of_block ((HB6.out.block w.heap.size (by simp)).trans (heap_new0 w _))
    clear hb
    have HT6 : Hid (IntsAt W6 (.slice o2 (turnedL h bs).length k2) (turnedL h bs)) := Lib.hid (SlAt.below (SlAt.below (SlAt.below (SlAt.below HV2.out HD3.out (Nat.le_refl _)) HD4.out (Nat.le_refl _)) HD5.out (Nat.le_refl _)) HD6.out (Nat.le_refl _))
    refine (Heap_any h _ _ _ _ ((HW.out.alloc _).below HB6.out (Nat.le_refl _)) ((HT.out.alloc _).below HB6.out (Nat.le_refl _)) ((HX.out.alloc _).below HB6.out (Nat.le_refl _)) (by omega) (by omega) (by omega)).mono ?_
    rintro e W7 ⟨a7, b7, c7, rfl, h1, h2, h3, hb⟩
    (try clear hcr hsr)
    have HD7 := Lib.hid hb
    have HB7 := Lib.hid (bgo HB6.out hb)
    obtain ⟨hcr, _, hsr⟩ := cells_of_block ((HB7.out.block w.heap.size (by simp)).trans (heap_new0 w _))
    clear hb
    have HH7 := Lib.hid (And.intro h1 (And.intro h2 h3))
    clear h1 h2 h3
    go_wp2_with fail
    have HDB7 := Lib.hid ((HD7.out.block _ (Array.getElem?_eq_some_iff.1 HDB6.out).1).trans HDB6.out)
    refine (list_any (turnedL h bs) _ _ (HT6.out.below HD7.out (Nat.le_refl _)) (by omega)).mono ?_
    rintro e W8 ⟨v, rfl, ho, hb⟩
    obtain ⟨o8, c8, rfl⟩ := owns_slice ho
    have HV8 := Lib.hid (SlAt.of_owns ho)
    clear ho
    (try clear hcr hsr)
    have HD8 := Lib.hid hb
    have HB8 := Lib.hid (bgo HB7.out hb)
    obtain ⟨hcr, _, hsr⟩ := cells_of_block ((HB8.out.block w.heap.size (by simp)).trans (heap_new0 w _))
    clear hb
    go_wp2_with fail
    have HDB8 := Lib.hid ((HD8.out.block _ (Array.getElem?_eq_some_iff.1 HDB7.out).1).trans HDB7.out)
    refine (Bounds_any h _ _ _ _ (turnedL h bs) _ (HH7.out.1.below HD8.out (Nat.le_refl _)) (HH7.out.2.1.below HD8.out (Nat.le_refl _)) (HH7.out.2.2.below HD8.out (Nat.le_refl _)) HV8.out).mono ?_
    rintro e W9 ⟨v, rfl, hv, hb⟩
    rw [HAB.out.1]
    rw [HAB.out.2.1] at hv
    obtain ⟨o9, c9, rfl⟩ := SlAt.open hv
    have HV9 := Lib.hid hv
    clear hv
    (try clear hcr hsr)
    have HD9 := Lib.hid hb
    have HB9 := Lib.hid (bgo HB8.out hb)
    obtain ⟨hcr, _, hsr⟩ := cells_of_block ((HB9.out.block w.heap.size (by simp)).trans (heap_new0 w _))
    clear hb
    go_wp2_with fail
    have HDB9 := Lib.hid ((HD9.out.block _ (Array.getElem?_eq_some_iff.1 HDB8.out).1).trans HDB8.out)
    refine (Heap_any h _ _ _ _ ((HW.out.alloc _).below HB9.out (Nat.le_refl _)) ((HT.out.alloc _).below HB9.out (Nat.le_refl _)) ((HX.out.alloc _).below HB9.out (Nat.le_refl _)) (by omega) (by omega) (by omega)).mono ?_
    rintro e W10 ⟨a10, b10, c10, rfl, h1, h2, h3, hb⟩
    (try clear hcr hsr)
    have HD10 := Lib.hid hb
    have HB10 := Lib.hid (bgo HB9.out hb)
    obtain ⟨hcr, _, hsr⟩ := cells_of_block ((HB10.out.block w.heap.size (by simp)).trans (heap_new0 w _))
    clear hb
    have HH10 := Lib.hid (And.intro h1 (And.intro h2 h3))
    clear h1 h2 h3
    go_wp2_with fail
    have HDB10 := Lib.hid ((HD10.out.block _ (Array.getElem?_eq_some_iff.1 HDB9.out).1).trans HDB9.out)
    have HT10 : Hid (IntsAt W10 (.slice o2 (turnedL h bs).length k2) (turnedL h bs)) := Lib.hid (SlAt.below (SlAt.below (SlAt.below (SlAt.below HT6.out HD7.out (Nat.le_refl _)) HD8.out (Nat.le_refl _)) HD9.out (Nat.le_refl _)) HD10.out (Nat.le_refl _))
    refine (list_any (turnedL h bs) _ _ (HT10.out) (by omega)).mono ?_
    rintro e W11 ⟨v, rfl, ho, hb⟩
    obtain ⟨o11, c11, rfl⟩ := owns_slice ho
    have HV11 := Lib.hid (SlAt.of_owns ho)
    clear ho
    (try clear hcr hsr)
    have HD11 := Lib.hid hb
    have HB11 := Lib.hid (bgo HB10.out hb)
    obtain ⟨hcr, _, hsr⟩ := cells_of_block ((HB11.out.block w.heap.size (by simp)).trans (heap_new0 w _))
    clear hb
    go_wp2_with fail
    have HDB11 := Lib.hid ((HD11.out.block _ (Array.getElem?_eq_some_iff.1 HDB10.out).1).trans HDB10.out)
    refine (Keeps_any h _ _ _ _ (turnedL h bs) _ (HH10.out.1.below HD11.out (Nat.le_refl _)) (HH10.out.2.1.below HD11.out (Nat.le_refl _)) (HH10.out.2.2.below HD11.out (Nat.le_refl _)) HV11.out).mono ?_
    rintro e W12 ⟨rfl, hb⟩
    rw [HAB.out.1, HAB.out.2.2]
    (try clear hcr hsr)
    have HD12 := Lib.hid hb
    have HB12 := Lib.hid (bgo HB11.out hb)
    obtain ⟨hcr, _, hsr⟩ := cells_of_block ((HB12.out.block w.heap.size (by simp)).trans (heap_new0 w _))
    clear hb
    have HDB12 := Lib.hid ((HD12.out.block _ (Array.getElem?_eq_some_iff.1 HDB11.out).1).trans HDB11.out)
    go_wp2_with fail
    refine (Truths_any h HS.out _ _ _ _ ((HW.out.alloc _).below HB12.out (Nat.le_refl _)) ((HT.out.alloc _).below HB12.out (Nat.le_refl _)) ((HX.out.alloc _).below HB12.out (Nat.le_refl _))).mono ?_
    rintro e W13 ⟨v, es, rfl, hv, hes, hi, hb⟩
    obtain ⟨oe, ce, rfl⟩ := TEAt.open hv
    have HV13 := Lib.hid (And.intro hv (And.intro hes hi))
    have hle13 := TEAt.len hv
    have hleq13 : es.length = (truthsR h).length := by rw [← hes]; simp
    clear hv hes hi
    (try clear hcr hsr)
    have HD13 := Lib.hid hb
    have HB13 := Lib.hid (bgo HB12.out hb)
    obtain ⟨hcr, _, hsr⟩ := cells_of_block ((HB13.out.block w.heap.size (by simp)).trans (heap_new0 w _))
    clear hb
    have HDB13 := Lib.hid ((HD13.out.block _ (Array.getElem?_eq_some_iff.1 HDB12.out).1).trans HDB12.out)
    have HBP13 : Hid (PairsAt W13 (.slice o9 _ c9) _) := Lib.hid (SlAt.below (SlAt.below (SlAt.below (SlAt.below HV9.out HD10.out (Nat.le_refl _)) HD11.out (Nat.le_refl _)) HD12.out (Nat.le_refl _)) HD13.out (Nat.le_refl _))
    have HT13 : Hid (IntsAt W13 (.slice o2 (turnedL h bs).length k2) (turnedL h bs)) := Lib.hid (SlAt.below (SlAt.below (SlAt.below HT10.out HD11.out (Nat.le_refl _)) HD12.out (Nat.le_refl _)) HD13.out (Nat.le_refl _))
    obtain ⟨hcd, _, hsd⟩ := cells_of_block HDB13.out
    have hl0b : es.length = 0 := hleq13.trans hnil
    have hl0c : ((es.length : Int) == 0) = true := by simp [hl0b]
    clear hl0b
    go_wp2_with fail
    refine (awake_any _).mono ?_
    rintro e W14 ⟨rfl, hb⟩
    (try clear hcr hsr)
    have HD14 := Lib.hid hb
    have HB14 := Lib.hid (bgo HB13.out hb)
    obtain ⟨hcr, _, hsr⟩ := cells_of_block ((HB14.out.block w.heap.size (by simp)).trans (heap_new0 w _))
    clear hb
    go_wp2_with fail
    go_returns
    exact ⟨by simp, bgo (bgoAlloc (Below.refl _ _) _) HB14.out⟩
  have ha : askErr h (turnedL h bs) = 0 := by rw [ask_turns hS htu, hte]; rfl
  obtain ⟨hbl, hba⟩ := bounds_eq ha hte
  obtain ⟨B, hB⟩ : ∃ B, boundsOut h (turnedL h bs) = B := ⟨_, rfl⟩
  rw [hB] at hbl hba
  have hne : (truthsR h).length ≠ 0 := fun e => by
    have e := List.eq_nil_of_length_eq_zero e
    cases hl : truthsL h [] with
    | nil => rw [hl] at hte; cases hte
    | cons a l =>
      have := (truthsR_mem hS a).2 (by rw [hl]; exact List.mem_cons_self)
      rw [e] at this
      cases this
  have hblI : ((B.length : Int) != h.last + 1) = false := by rw [show (B.length : Int) = h.last + 1 from by omega]; simp
  have hBl10 : B.length ≤ 10 := by omega
  obtain ⟨hfe1, hfe2⟩ := fear_eq ha hte
  obtain ⟨hd1, hd2⟩ := danger_plain ha hte
  cases hfr : fearR h (turnedL h bs) (truthsR h) with
  | none =>
    have HAB : Hid (askErr h (turnedL h bs) = 0 ∧ boundsOut h (turnedL h bs) = B ∧ keepsV h (turnedL h bs) = 1) := Lib.hid ⟨ha, hB, hd1 hfr⟩
    have HFE : Hid (fearOut h (turnedL h bs) = (0, false, false) ∧ fearErr h (turnedL h bs) = 7) := Lib.hid ⟨(hfe2 hfr).2, (hfe2 hfr).1⟩
    clear hry hS hf0 htu ha hte hbl hba hB hfe1 hfe2 hd1 hd2 hfr
    go_enter Try.func7, Try.ntmps7
    go_wp2_with fail
    refine (ready_any h _ _ _ _ ((HW.out.alloc _).below HB0.out (Nat.le_refl _)) ((HT.out.alloc _).below HB0.out (Nat.le_refl _)) ((HX.out.alloc _).below HB0.out (Nat.le_refl _))).mono ?_
    rw [HR.out]
    rintro e W1 ⟨rfl, hb⟩
    (try clear hcr hsr)
    have HD1 := Lib.hid hb
    have HB1 := Lib.hid (bgo HB0.out hb)
    obtain ⟨hcr, _, hsr⟩ := cells_of_block ((HB1.out.block w.heap.size (by simp)).trans (heap_new0 w _))
    clear hb
    go_wp2_with fail
    refine (turned_any h _ _ _ bs _ hl0 hl9 hbs).mono ?_
    rintro e W2 ⟨v, rfl, hv, hb⟩
    obtain ⟨o2, k2, rfl⟩ := hv.open
    have HV2 := Lib.hid hv
    clear hv
    (try clear hcr hsr)
    have HD2 := Lib.hid hb
    have HB2 := Lib.hid (bgo HB1.out hb)
    obtain ⟨hcr, _, hsr⟩ := cells_of_block ((HB2.out.block w.heap.size (by simp)).trans (heap_new0 w _))
    clear hb
    go_wp2_with fail
    refine (Heap_any h _ _ _ _ ((HW.out.alloc _).below HB2.out (Nat.le_refl _)) ((HT.out.alloc _).below HB2.out (Nat.le_refl _)) ((HX.out.alloc _).below HB2.out (Nat.le_refl _)) (by omega) (by omega) (by omega)).mono ?_
    rintro e W3 ⟨a3, b3, c3, rfl, h1, h2, h3, hb⟩
    (try clear hcr hsr)
    have HD3 := Lib.hid hb
    have HB3 := Lib.hid (bgo HB2.out hb)
    obtain ⟨hcr, _, hsr⟩ := cells_of_block ((HB3.out.block w.heap.size (by simp)).trans (heap_new0 w _))
    clear hb
    have HH3 := Lib.hid (And.intro h1 (And.intro h2 h3))
    clear h1 h2 h3
    go_wp2_with fail
    refine (list_any (turnedL h bs) _ _ (HV2.out.below HD3.out (Nat.le_refl _)) (by omega)).mono ?_
    rintro e W4 ⟨v, rfl, ho, hb⟩
    obtain ⟨o4, c4, rfl⟩ := owns_slice ho
    have HV4 := Lib.hid (SlAt.of_owns ho)
    clear ho
    (try clear hcr hsr)
    have HD4 := Lib.hid hb
    have HB4 := Lib.hid (bgo HB3.out hb)
    obtain ⟨hcr, _, hsr⟩ := cells_of_block ((HB4.out.block w.heap.size (by simp)).trans (heap_new0 w _))
    clear hb
    go_wp2_with fail
    refine (Fear_any h _ _ _ _ (turnedL h bs) _ (HH3.out.1.below HD4.out (Nat.le_refl _)) (HH3.out.2.1.below HD4.out (Nat.le_refl _)) (HH3.out.2.2.below HD4.out (Nat.le_refl _)) HV4.out).mono ?_
    rintro e W5 ⟨rfl, hb⟩
    rw [HFE.out.1, HFE.out.2]
    (try clear hcr hsr)
    have HD5 := Lib.hid hb
    have HB5 := Lib.hid (bgo HB4.out hb)
    obtain ⟨hcr, _, hsr⟩ := cells_of_block ((HB5.out.block w.heap.size (by simp)).trans (heap_new0 w _))
    clear hb
    go_wp2_with fail
    refine gcallsW fun W6 hW6 => ?_
    have hb : Below W5.heap.size W5 W6 := by rw [hW6]; exact bgoAlloc (Below.refl _ _) _
    have HDB6 := Lib.hid (show W6.heap[W5.heap.size]? = some (.cells #[iv 0, .bool false, .bool false] 32 (0, 0)) from by rw [hW6]; exact heap_new0 _ _)
    clear hW6
    (try clear hcr hsr)
    have HD6 := Lib.hid hb
    have HB6 := Lib.hid (bgo HB5.out hb)
    obtain ⟨hcr, _, hsr⟩ := cells_of_block ((HB6.out.block w.heap.size (by simp)).trans (heap_new0 w _))
    clear hb
    have HT6 : Hid (IntsAt W6 (.slice o2 (turnedL h bs).length k2) (turnedL h bs)) := Lib.hid (SlAt.below (SlAt.below (SlAt.below (SlAt.below HV2.out HD3.out (Nat.le_refl _)) HD4.out (Nat.le_refl _)) HD5.out (Nat.le_refl _)) HD6.out (Nat.le_refl _))
    refine (Heap_any h _ _ _ _ ((HW.out.alloc _).below HB6.out (Nat.le_refl _)) ((HT.out.alloc _).below HB6.out (Nat.le_refl _)) ((HX.out.alloc _).below HB6.out (Nat.le_refl _)) (by omega) (by omega) (by omega)).mono ?_
    rintro e W7 ⟨a7, b7, c7, rfl, h1, h2, h3, hb⟩
    (try clear hcr hsr)
    have HD7 := Lib.hid hb
    have HB7 := Lib.hid (bgo HB6.out hb)
    obtain ⟨hcr, _, hsr⟩ := cells_of_block ((HB7.out.block w.heap.size (by simp)).trans (heap_new0 w _))
    clear hb
    have HH7 := Lib.hid (And.intro h1 (And.intro h2 h3))
    clear h1 h2 h3
    go_wp2_with fail
    have HDB7 := Lib.hid ((HD7.out.block _ (Array.getElem?_eq_some_iff.1 HDB6.out).1).trans HDB6.out)
    refine (list_any (turnedL h bs) _ _ (HT6.out.below HD7.out (Nat.le_refl _)) (by omega)).mono ?_
    rintro e W8 ⟨v, rfl, ho, hb⟩
    obtain ⟨o8, c8, rfl⟩ := owns_slice ho
    have HV8 := Lib.hid (SlAt.of_owns ho)
    clear ho
    (try clear hcr hsr)
    have HD8 := Lib.hid hb
    have HB8 := Lib.hid (bgo HB7.out hb)
    obtain ⟨hcr, _, hsr⟩ := cells_of_block ((HB8.out.block w.heap.size (by simp)).trans (heap_new0 w _))
    clear hb
    go_wp2_with fail
    have HDB8 := Lib.hid ((HD8.out.block _ (Array.getElem?_eq_some_iff.1 HDB7.out).1).trans HDB7.out)
    refine (Bounds_any h _ _ _ _ (turnedL h bs) _ (HH7.out.1.below HD8.out (Nat.le_refl _)) (HH7.out.2.1.below HD8.out (Nat.le_refl _)) (HH7.out.2.2.below HD8.out (Nat.le_refl _)) HV8.out).mono ?_
    rintro e W9 ⟨v, rfl, hv, hb⟩
    rw [HAB.out.1]
    rw [HAB.out.2.1] at hv
    obtain ⟨o9, c9, rfl⟩ := SlAt.open hv
    have HV9 := Lib.hid hv
    clear hv
    (try clear hcr hsr)
    have HD9 := Lib.hid hb
    have HB9 := Lib.hid (bgo HB8.out hb)
    obtain ⟨hcr, _, hsr⟩ := cells_of_block ((HB9.out.block w.heap.size (by simp)).trans (heap_new0 w _))
    clear hb
    go_wp2_with fail
    have HDB9 := Lib.hid ((HD9.out.block _ (Array.getElem?_eq_some_iff.1 HDB8.out).1).trans HDB8.out)
    refine (Heap_any h _ _ _ _ ((HW.out.alloc _).below HB9.out (Nat.le_refl _)) ((HT.out.alloc _).below HB9.out (Nat.le_refl _)) ((HX.out.alloc _).below HB9.out (Nat.le_refl _)) (by omega) (by omega) (by omega)).mono ?_
    rintro e W10 ⟨a10, b10, c10, rfl, h1, h2, h3, hb⟩
    (try clear hcr hsr)
    have HD10 := Lib.hid hb
    have HB10 := Lib.hid (bgo HB9.out hb)
    obtain ⟨hcr, _, hsr⟩ := cells_of_block ((HB10.out.block w.heap.size (by simp)).trans (heap_new0 w _))
    clear hb
    have HH10 := Lib.hid (And.intro h1 (And.intro h2 h3))
    clear h1 h2 h3
    go_wp2_with fail
    have HDB10 := Lib.hid ((HD10.out.block _ (Array.getElem?_eq_some_iff.1 HDB9.out).1).trans HDB9.out)
    have HT10 : Hid (IntsAt W10 (.slice o2 (turnedL h bs).length k2) (turnedL h bs)) := Lib.hid (SlAt.below (SlAt.below (SlAt.below (SlAt.below HT6.out HD7.out (Nat.le_refl _)) HD8.out (Nat.le_refl _)) HD9.out (Nat.le_refl _)) HD10.out (Nat.le_refl _))
    refine (list_any (turnedL h bs) _ _ (HT10.out) (by omega)).mono ?_
    rintro e W11 ⟨v, rfl, ho, hb⟩
    obtain ⟨o11, c11, rfl⟩ := owns_slice ho
    have HV11 := Lib.hid (SlAt.of_owns ho)
    clear ho
    (try clear hcr hsr)
    have HD11 := Lib.hid hb
    have HB11 := Lib.hid (bgo HB10.out hb)
    obtain ⟨hcr, _, hsr⟩ := cells_of_block ((HB11.out.block w.heap.size (by simp)).trans (heap_new0 w _))
    clear hb
    go_wp2_with fail
    have HDB11 := Lib.hid ((HD11.out.block _ (Array.getElem?_eq_some_iff.1 HDB10.out).1).trans HDB10.out)
    refine (Keeps_any h _ _ _ _ (turnedL h bs) _ (HH10.out.1.below HD11.out (Nat.le_refl _)) (HH10.out.2.1.below HD11.out (Nat.le_refl _)) (HH10.out.2.2.below HD11.out (Nat.le_refl _)) HV11.out).mono ?_
    rintro e W12 ⟨rfl, hb⟩
    rw [HAB.out.1, HAB.out.2.2]
    (try clear hcr hsr)
    have HD12 := Lib.hid hb
    have HB12 := Lib.hid (bgo HB11.out hb)
    obtain ⟨hcr, _, hsr⟩ := cells_of_block ((HB12.out.block w.heap.size (by simp)).trans (heap_new0 w _))
    clear hb
    have HDB12 := Lib.hid ((HD12.out.block _ (Array.getElem?_eq_some_iff.1 HDB11.out).1).trans HDB11.out)
    go_wp2_with fail
    refine (Truths_any h HS.out _ _ _ _ ((HW.out.alloc _).below HB12.out (Nat.le_refl _)) ((HT.out.alloc _).below HB12.out (Nat.le_refl _)) ((HX.out.alloc _).below HB12.out (Nat.le_refl _))).mono ?_
    rintro e W13 ⟨v, es, rfl, hv, hes, hi, hb⟩
    obtain ⟨oe, ce, rfl⟩ := TEAt.open hv
    have HV13 := Lib.hid (And.intro hv (And.intro hes hi))
    have hle13 := TEAt.len hv
    have hleq13 : es.length = (truthsR h).length := by rw [← hes]; simp
    clear hv hes hi
    (try clear hcr hsr)
    have HD13 := Lib.hid hb
    have HB13 := Lib.hid (bgo HB12.out hb)
    obtain ⟨hcr, _, hsr⟩ := cells_of_block ((HB13.out.block w.heap.size (by simp)).trans (heap_new0 w _))
    clear hb
    have HDB13 := Lib.hid ((HD13.out.block _ (Array.getElem?_eq_some_iff.1 HDB12.out).1).trans HDB12.out)
    have HBP13 : Hid (PairsAt W13 (.slice o9 _ c9) _) := Lib.hid (SlAt.below (SlAt.below (SlAt.below (SlAt.below HV9.out HD10.out (Nat.le_refl _)) HD11.out (Nat.le_refl _)) HD12.out (Nat.le_refl _)) HD13.out (Nat.le_refl _))
    have HT13 : Hid (IntsAt W13 (.slice o2 (turnedL h bs).length k2) (turnedL h bs)) := Lib.hid (SlAt.below (SlAt.below (SlAt.below HT10.out HD11.out (Nat.le_refl _)) HD12.out (Nat.le_refl _)) HD13.out (Nat.le_refl _))
    obtain ⟨hcd, _, hsd⟩ := cells_of_block HDB13.out
    have hl0c : ((es.length : Int) == 0) = false := by rw [beq_eq_false_iff_ne]; omega
    go_wp2_with fail
    refine (awake_any _).mono ?_
    rintro e W14 ⟨rfl, hb⟩
    (try clear hcr hsr)
    have HD14 := Lib.hid hb
    have HB14 := Lib.hid (bgo HB13.out hb)
    obtain ⟨hcr, _, hsr⟩ := cells_of_block ((HB14.out.block w.heap.size (by simp)).trans (heap_new0 w _))
    clear hb
    go_wp2_with fail
    go_returns
    exact ⟨by simp, bgo (bgoAlloc (Below.refl _ _) _) HB14.out⟩
  | some i =>
    obtain ⟨q1, q2, q3, q4⟩ := hd2 i hfr
    obtain ⟨r1, r2⟩ := hfe1 i hfr
    obtain ⟨hb1, hb2⟩ := hba i q1
    obtain ⟨V, hV⟩ : ∃ V, keepsV h (turnedL h bs) = V := ⟨_, rfl⟩
    rw [hV] at q2
    have hV1 : (V == 1) = false := by rw [beq_eq_false_iff_ne]; exact q2
    obtain ⟨lo, hlo⟩ : ∃ lo, (bndR h (turnedL h bs) (truthsR h) i).1 = lo := ⟨_, rfl⟩
    obtain ⟨hi, hhi⟩ : ∃ hi, (bndR h (turnedL h bs) (truthsR h) i).2 = hi := ⟨_, rfl⟩
    have hiB : i < B.length := by omega
    have HBK : Hid (B[i] = (lo, hi)) := Lib.hid (by rw [← hlo, ← hhi, ← getD_lt (d := (0, 0)) hiB, hb1])
    have HOKT : Hid (∀ t ∈ truthsR h, HeatOk h t ∧ (h.last + 1).toNat ≤ t.2.length) := Lib.hid (fun t hm => by
      obtain ⟨j, _, e, _⟩ := (truthsTo_mem h t _).1 hm
      exact ⟨by rw [← e]; exact heatOk_of hS (nthT_listed hS _), truth_len hS ((truthsR_mem hS t).1 hm)⟩)
    unfold fearB at q3
    rw [hlo, hhi] at r2 q3
    obtain ⟨bu, hbu⟩ : ∃ bu, decide (h.burn < hi) = bu := ⟨_, rfl⟩
    obtain ⟨bd, hbd⟩ : ∃ bd, decide (lo < h.die) = bd := ⟨_, rfl⟩
    rw [hbu, hbd] at r2 q3
    have HAB : Hid (askErr h (turnedL h bs) = 0 ∧ boundsOut h (turnedL h bs) = B ∧ keepsV h (turnedL h bs) = V) := Lib.hid ⟨ha, hB, hV⟩
    have HFE := Lib.hid (And.intro r2 r1)
    have HQ4 := Lib.hid q4
    have hil : (i : Int) ≤ h.last := by omega
    have hi10 : i < 10 := by omega
    have hIn : inB (i : Int) 0 h.last = true := by simp only [inB, Bool.and_eq_true, decide_eq_true_eq]; omega
    have HIN := Lib.hid hIn
    clear hry hS hf0 htu ha hte hbl hba hB hfe1 hfe2 hd1 hd2 hfr q1 q2 q4 r1 r2 hb1 hb2 hV hlo hhi hIn
    go_enter Try.func7, Try.ntmps7
    go_wp2_with fail
    refine (ready_any h _ _ _ _ ((HW.out.alloc _).below HB0.out (Nat.le_refl _)) ((HT.out.alloc _).below HB0.out (Nat.le_refl _)) ((HX.out.alloc _).below HB0.out (Nat.le_refl _))).mono ?_
    rw [HR.out]
    rintro e W1 ⟨rfl, hb⟩
    (try clear hcr hsr)
    have HD1 := Lib.hid hb
    have HB1 := Lib.hid (bgo HB0.out hb)
    obtain ⟨hcr, _, hsr⟩ := cells_of_block ((HB1.out.block w.heap.size (by simp)).trans (heap_new0 w _))
    clear hb
    go_wp2_with fail
    refine (turned_any h _ _ _ bs _ hl0 hl9 hbs).mono ?_
    rintro e W2 ⟨v, rfl, hv, hb⟩
    obtain ⟨o2, k2, rfl⟩ := hv.open
    have HV2 := Lib.hid hv
    clear hv
    (try clear hcr hsr)
    have HD2 := Lib.hid hb
    have HB2 := Lib.hid (bgo HB1.out hb)
    obtain ⟨hcr, _, hsr⟩ := cells_of_block ((HB2.out.block w.heap.size (by simp)).trans (heap_new0 w _))
    clear hb
    go_wp2_with fail
    refine (Heap_any h _ _ _ _ ((HW.out.alloc _).below HB2.out (Nat.le_refl _)) ((HT.out.alloc _).below HB2.out (Nat.le_refl _)) ((HX.out.alloc _).below HB2.out (Nat.le_refl _)) (by omega) (by omega) (by omega)).mono ?_
    rintro e W3 ⟨a3, b3, c3, rfl, h1, h2, h3, hb⟩
    (try clear hcr hsr)
    have HD3 := Lib.hid hb
    have HB3 := Lib.hid (bgo HB2.out hb)
    obtain ⟨hcr, _, hsr⟩ := cells_of_block ((HB3.out.block w.heap.size (by simp)).trans (heap_new0 w _))
    clear hb
    have HH3 := Lib.hid (And.intro h1 (And.intro h2 h3))
    clear h1 h2 h3
    go_wp2_with fail
    refine (list_any (turnedL h bs) _ _ (HV2.out.below HD3.out (Nat.le_refl _)) (by omega)).mono ?_
    rintro e W4 ⟨v, rfl, ho, hb⟩
    obtain ⟨o4, c4, rfl⟩ := owns_slice ho
    have HV4 := Lib.hid (SlAt.of_owns ho)
    clear ho
    (try clear hcr hsr)
    have HD4 := Lib.hid hb
    have HB4 := Lib.hid (bgo HB3.out hb)
    obtain ⟨hcr, _, hsr⟩ := cells_of_block ((HB4.out.block w.heap.size (by simp)).trans (heap_new0 w _))
    clear hb
    go_wp2_with fail
    refine (Fear_any h _ _ _ _ (turnedL h bs) _ (HH3.out.1.below HD4.out (Nat.le_refl _)) (HH3.out.2.1.below HD4.out (Nat.le_refl _)) (HH3.out.2.2.below HD4.out (Nat.le_refl _)) HV4.out).mono ?_
    rintro e W5 ⟨rfl, hb⟩
    rw [HFE.out.1, HFE.out.2]
    (try clear hcr hsr)
    have HD5 := Lib.hid hb
    have HB5 := Lib.hid (bgo HB4.out hb)
    obtain ⟨hcr, _, hsr⟩ := cells_of_block ((HB5.out.block w.heap.size (by simp)).trans (heap_new0 w _))
    clear hb
    go_wp2_with fail
    refine gcallsW fun W6 hW6 => ?_
    have hb : Below W5.heap.size W5 W6 := by rw [hW6]; exact bgoAlloc (Below.refl _ _) _
    have HDB6 := Lib.hid (show W6.heap[W5.heap.size]? = some (.cells #[iv (i : Int), .bool bu, .bool bd] 32 (0, 0)) from by rw [hW6]; exact heap_new0 _ _)
    clear hW6
    (try clear hcr hsr)
    have HD6 := Lib.hid hb
    have HB6 := Lib.hid (bgo HB5.out hb)
    obtain ⟨hcr, _, hsr⟩ := cells_of_block ((HB6.out.block w.heap.size (by simp)).trans (heap_new0 w _))
    clear hb
    have HT6 : Hid (IntsAt W6 (.slice o2 (turnedL h bs).length k2) (turnedL h bs)) := Lib.hid (SlAt.below (SlAt.below (SlAt.below (SlAt.below HV2.out HD3.out (Nat.le_refl _)) HD4.out (Nat.le_refl _)) HD5.out (Nat.le_refl _)) HD6.out (Nat.le_refl _))
    refine (Heap_any h _ _ _ _ ((HW.out.alloc _).below HB6.out (Nat.le_refl _)) ((HT.out.alloc _).below HB6.out (Nat.le_refl _)) ((HX.out.alloc _).below HB6.out (Nat.le_refl _)) (by omega) (by omega) (by omega)).mono ?_
    rintro e W7 ⟨a7, b7, c7, rfl, h1, h2, h3, hb⟩
    (try clear hcr hsr)
    have HD7 := Lib.hid hb
    have HB7 := Lib.hid (bgo HB6.out hb)
    obtain ⟨hcr, _, hsr⟩ := cells_of_block ((HB7.out.block w.heap.size (by simp)).trans (heap_new0 w _))
    clear hb
    have HH7 := Lib.hid (And.intro h1 (And.intro h2 h3))
    clear h1 h2 h3
    go_wp2_with fail
    have HDB7 := Lib.hid ((HD7.out.block _ (Array.getElem?_eq_some_iff.1 HDB6.out).1).trans HDB6.out)
    refine (list_any (turnedL h bs) _ _ (HT6.out.below HD7.out (Nat.le_refl _)) (by omega)).mono ?_
    rintro e W8 ⟨v, rfl, ho, hb⟩
    obtain ⟨o8, c8, rfl⟩ := owns_slice ho
    have HV8 := Lib.hid (SlAt.of_owns ho)
    clear ho
    (try clear hcr hsr)
    have HD8 := Lib.hid hb
    have HB8 := Lib.hid (bgo HB7.out hb)
    obtain ⟨hcr, _, hsr⟩ := cells_of_block ((HB8.out.block w.heap.size (by simp)).trans (heap_new0 w _))
    clear hb
    go_wp2_with fail
    have HDB8 := Lib.hid ((HD8.out.block _ (Array.getElem?_eq_some_iff.1 HDB7.out).1).trans HDB7.out)
    refine (Bounds_any h _ _ _ _ (turnedL h bs) _ (HH7.out.1.below HD8.out (Nat.le_refl _)) (HH7.out.2.1.below HD8.out (Nat.le_refl _)) (HH7.out.2.2.below HD8.out (Nat.le_refl _)) HV8.out).mono ?_
    rintro e W9 ⟨v, rfl, hv, hb⟩
    rw [HAB.out.1]
    rw [HAB.out.2.1] at hv
    obtain ⟨o9, c9, rfl⟩ := SlAt.open hv
    have HV9 := Lib.hid hv
    clear hv
    (try clear hcr hsr)
    have HD9 := Lib.hid hb
    have HB9 := Lib.hid (bgo HB8.out hb)
    obtain ⟨hcr, _, hsr⟩ := cells_of_block ((HB9.out.block w.heap.size (by simp)).trans (heap_new0 w _))
    clear hb
    go_wp2_with fail
    have HDB9 := Lib.hid ((HD9.out.block _ (Array.getElem?_eq_some_iff.1 HDB8.out).1).trans HDB8.out)
    refine (Heap_any h _ _ _ _ ((HW.out.alloc _).below HB9.out (Nat.le_refl _)) ((HT.out.alloc _).below HB9.out (Nat.le_refl _)) ((HX.out.alloc _).below HB9.out (Nat.le_refl _)) (by omega) (by omega) (by omega)).mono ?_
    rintro e W10 ⟨a10, b10, c10, rfl, h1, h2, h3, hb⟩
    (try clear hcr hsr)
    have HD10 := Lib.hid hb
    have HB10 := Lib.hid (bgo HB9.out hb)
    obtain ⟨hcr, _, hsr⟩ := cells_of_block ((HB10.out.block w.heap.size (by simp)).trans (heap_new0 w _))
    clear hb
    have HH10 := Lib.hid (And.intro h1 (And.intro h2 h3))
    clear h1 h2 h3
    go_wp2_with fail
    have HDB10 := Lib.hid ((HD10.out.block _ (Array.getElem?_eq_some_iff.1 HDB9.out).1).trans HDB9.out)
    have HT10 : Hid (IntsAt W10 (.slice o2 (turnedL h bs).length k2) (turnedL h bs)) := Lib.hid (SlAt.below (SlAt.below (SlAt.below (SlAt.below HT6.out HD7.out (Nat.le_refl _)) HD8.out (Nat.le_refl _)) HD9.out (Nat.le_refl _)) HD10.out (Nat.le_refl _))
    refine (list_any (turnedL h bs) _ _ (HT10.out) (by omega)).mono ?_
    rintro e W11 ⟨v, rfl, ho, hb⟩
    obtain ⟨o11, c11, rfl⟩ := owns_slice ho
    have HV11 := Lib.hid (SlAt.of_owns ho)
    clear ho
    (try clear hcr hsr)
    have HD11 := Lib.hid hb
    have HB11 := Lib.hid (bgo HB10.out hb)
    obtain ⟨hcr, _, hsr⟩ := cells_of_block ((HB11.out.block w.heap.size (by simp)).trans (heap_new0 w _))
    clear hb
    go_wp2_with fail
    have HDB11 := Lib.hid ((HD11.out.block _ (Array.getElem?_eq_some_iff.1 HDB10.out).1).trans HDB10.out)
    refine (Keeps_any h _ _ _ _ (turnedL h bs) _ (HH10.out.1.below HD11.out (Nat.le_refl _)) (HH10.out.2.1.below HD11.out (Nat.le_refl _)) (HH10.out.2.2.below HD11.out (Nat.le_refl _)) HV11.out).mono ?_
    rintro e W12 ⟨rfl, hb⟩
    rw [HAB.out.1, HAB.out.2.2]
    (try clear hcr hsr)
    have HD12 := Lib.hid hb
    have HB12 := Lib.hid (bgo HB11.out hb)
    obtain ⟨hcr, _, hsr⟩ := cells_of_block ((HB12.out.block w.heap.size (by simp)).trans (heap_new0 w _))
    clear hb
    have HDB12 := Lib.hid ((HD12.out.block _ (Array.getElem?_eq_some_iff.1 HDB11.out).1).trans HDB11.out)
    go_wp2_with fail
    refine (Truths_any h HS.out _ _ _ _ ((HW.out.alloc _).below HB12.out (Nat.le_refl _)) ((HT.out.alloc _).below HB12.out (Nat.le_refl _)) ((HX.out.alloc _).below HB12.out (Nat.le_refl _))).mono ?_
    rintro e W13 ⟨v, es, rfl, hv, hes, hi, hb⟩
    obtain ⟨oe, ce, rfl⟩ := TEAt.open hv
    have HV13 := Lib.hid (And.intro hv (And.intro hes hi))
    have hle13 := TEAt.len hv
    have hleq13 : es.length = (truthsR h).length := by rw [← hes]; simp
    clear hv hes hi
    (try clear hcr hsr)
    have HD13 := Lib.hid hb
    have HB13 := Lib.hid (bgo HB12.out hb)
    obtain ⟨hcr, _, hsr⟩ := cells_of_block ((HB13.out.block w.heap.size (by simp)).trans (heap_new0 w _))
    clear hb
    have HDB13 := Lib.hid ((HD13.out.block _ (Array.getElem?_eq_some_iff.1 HDB12.out).1).trans HDB12.out)
    have HBP13 : Hid (PairsAt W13 (.slice o9 _ c9) _) := Lib.hid (SlAt.below (SlAt.below (SlAt.below (SlAt.below HV9.out HD10.out (Nat.le_refl _)) HD11.out (Nat.le_refl _)) HD12.out (Nat.le_refl _)) HD13.out (Nat.le_refl _))
    have HT13 : Hid (IntsAt W13 (.slice o2 (turnedL h bs).length k2) (turnedL h bs)) := Lib.hid (SlAt.below (SlAt.below (SlAt.below HT10.out HD11.out (Nat.le_refl _)) HD12.out (Nat.le_refl _)) HD13.out (Nat.le_refl _))
    obtain ⟨hcd, _, hsd⟩ := cells_of_block HDB13.out
    have hesn : es.length ≠ 0 := by omega
    have hl0c : ((es.length : Int) == 0) = false := by rw [beq_eq_false_iff_ne]; omega
    clear hleq13
    go_wp2_with fail
    obtain ⟨b5, off5, hb5, hb5s, f1, f2⟩ := PairsAt.cell HBP13.out hiB
    rw [HBK.out] at f1 f2
    subst hb5
    cases bu <;> cases bd
    case false.false => cases q3
    case false.true =>
      go_wp2_with fail
      refine wp_region_rg 48 [] none [(7, Spec.val (.bool true))] (by kernel_rfl) (by kernel_rfl) ?_
      simp only [List.take_succ_cons, List.take_zero, List.drop_succ_cons, List.drop_zero]
      repeat (first | (refine tree_det (by rfl) _ (by rfl) (fun W hW => by go_simp; (try simp (disch := omega) only [IntWalk.i64_in]); try rfl) ?_; simp only [Act.put, List.setIfInBounds_toArray, List.set_cons_succ, List.set_cons_zero]) | (refine tree_skip (by rfl) (by rfl) ?_; simp only [Act.put, List.setIfInBounds_toArray, List.set_cons_succ, List.set_cons_zero]))
      refine tree_val _ (by rfl) (by rfl) 43 _ (fun W hW => by go_simp; try rfl) (fun W hE hF => by exact by have := In_any (i : Int) 0 h.last W; rw [HIN.out] at this; exact this) ?_
      simp only [Act.put, List.setIfInBounds_toArray, List.set_cons_succ, List.set_cons_zero]
      repeat (first | (refine tree_det (by rfl) _ (by rfl) (fun W hW => by go_simp; (try simp (disch := omega) only [IntWalk.i64_in]); try rfl) ?_; simp only [Act.put, List.setIfInBounds_toArray, List.set_cons_succ, List.set_cons_zero]) | (refine tree_skip (by rfl) (by rfl) ?_; simp only [Act.put, List.setIfInBounds_toArray, List.set_cons_succ, List.set_cons_zero]))
      intro W14 hE hF
      have hb := Ext.below (show Ext [] W13 W14 from hE)
      (try clear hcr hsr)
      have HD14 := Lib.hid hb
      have HB14 := Lib.hid (bgo HB13.out hb)
      obtain ⟨hcr, _, hsr⟩ := cells_of_block ((HB14.out.block w.heap.size (by simp)).trans (heap_new0 w _))
      clear hb
      have HDB14 := Lib.hid ((HD14.out.block _ (Array.getElem?_eq_some_iff.1 HDB13.out).1).trans HDB13.out)
      clear hE hF hcd hsd f1 f2
      obtain ⟨J, hJ⟩ : ∃ J : Nat, (wh : Int) % (es.length : Int) = J := Int.eq_ofNat_of_zero_le (Int.emod_nonneg _ (by omega))
      have hJI : (J : Int) < es.length := by have := Int.emod_lt_of_pos (wh : Int) (show 0 < (es.length : Int) by omega); omega
      have hJl : J < es.length := by omega
      obtain ⟨be, offe, hoe, hbe, g1, g2⟩ := TEAt.cell (SlAt.below HV13.out.1 HD14.out (Nat.le_refl _)) hJl
      subst hoe
      have hee := HV13.out.2.2 _ (List.getElem_mem hJl)
      have hm : teP es[J] ∈ truthsR h := by rw [← HV13.out.2.1]; exact List.mem_map.2 ⟨_, List.getElem_mem hJl, rfl⟩
      have hoo := HOKT.out _ hm
      have hq := fun j hj => HQ4.out j hj _ hm
      generalize es[J] = e at *
      obtain ⟨start, ve, wet⟩ := e
      obtain ⟨oq, cq, rfl⟩ := SlAt.open (show IntsAt W13 ve wet from hee)
      have how : (h.last + 1).toNat ≤ wet.length := hoo.2
      have HHT := Lib.hid (fun (k : Nat) (hk : k < i) (W : World) (hW : Below W13.heap.size W13 W) => Heat_at h (start, wet) hoo.1 ow ot ox h.wet.length cw h.turns.length ct h.readings.length cx (.slice oq wet.length cq) (.slice o2 (turnedL h bs).length k2) (turnedL h bs) k W (by show k < wet.length; omega) (by omega) (SlAt.below (show IntsAt W13 (.slice oq wet.length cq) wet from hee) hW (Nat.le_refl _)) (HT13.out.below hW (Nat.le_refl _)))
      have HQI : Hid (∀ j, j < i → inB (heatAt h.size h.cool (turnedL h bs) start wet (j + 1)) h.die h.burn = true) := Lib.hid hq
      clear hee hm hoo hq how
      go_wp2_with fail
      refine gworld fun W15 hW15 => ?_
      have hb : Below W14.heap.size W14 W15 := by rw [hW15]; exact (by repeat (first | exact Below.refl _ _ | assumption | refine bgo ?_ (by assumption) | refine bgoAlloc ?_ _ | refine bgoDrew ?_ | refine bgoSet ?_ (by simp; omega) _))
      have HTB15 := Lib.hid (show W15.heap[W14.heap.size]? = some (.cells #[iv start, .slice oq wet.length cq] 66 (0, 0)) from by rw [hW15]; exact heap_new0 _ _)
      clear hW15 g1 g2
      (try clear hcr hsr)
      have HD15 := Lib.hid hb
      have HB15 := Lib.hid (bgo HB14.out hb)
      obtain ⟨hcr, _, hsr⟩ := cells_of_block ((HB15.out.block w.heap.size (by simp)).trans (heap_new0 w _))
      clear hb
      have HDB15 := Lib.hid ((HD15.out.block _ (Array.getElem?_eq_some_iff.1 HDB14.out).1).trans HDB14.out)
      go_loopw [16] (fun u wr => ∃ k : Nat, k ≤ i ∧ u = .int .i64 k ∧ Below W15.heap.size W15 wr) (fun u _ => i - (intOf u).toNat)
      case atStart => exact ⟨0, Nat.zero_le _, rfl, Below.refl _ _⟩
      case round =>
        obtain ⟨k, hk, rfl, hB⟩ := hrel
        have hb := hB
        (try clear hcr hsr)
        have HD16 := Lib.hid hb
        have HB16 := Lib.hid (bgo HB15.out hb)
        obtain ⟨hcr, _, hsr⟩ := cells_of_block ((HB16.out.block w.heap.size (by simp)).trans (heap_new0 w _))
        clear hb
        have HDB16 := Lib.hid ((HD16.out.block _ (Array.getElem?_eq_some_iff.1 HDB15.out).1).trans HDB15.out)
        obtain ⟨hcd, _, hsd⟩ := cells_of_block HDB16.out
        obtain ⟨hct, _, hst⟩ := cells_of_block ((hB.block _ (cells_of_block HTB15.out).2.2).trans HTB15.out)
        clear hB
        by_cases hlt : k < i
        case neg =>
          obtain rfl : k = i := by omega
          go_wp2_with fail
          refine (awake_any _).mono ?_
          rintro e W17 ⟨rfl, hb⟩
          (try clear hcr hsr)
          have HD17 := Lib.hid hb
          have HB17 := Lib.hid (bgo HB16.out hb)
          obtain ⟨hcr, _, hsr⟩ := cells_of_block ((HB17.out.block w.heap.size (by simp)).trans (heap_new0 w _))
          clear hb
          go_wp2_with fail
          go_returns
          exact ⟨by simp, bgo (bgoAlloc (Below.refl _ _) _) HB17.out⟩
        have hltI : (k : Int) < i := by omega
        obtain ⟨m, hm⟩ : ∃ m, heatAt h.size h.cool (turnedL h bs) start wet (k + 1) = m := ⟨_, rfl⟩
        have HIB : Hid (inB m h.die h.burn = true) := Lib.hid (by rw [← hm]; exact HQI.out k hlt)
        have HHK := Lib.hid (fun (W : World) (hW : Below W13.heap.size W13 W) => HHT.out k hlt W hW)
        rw [hm] at HHK
        clear hm
        go_wp2_with fail
        refine wp_region_rg 11 [] none [(4, Spec.val (iv m)), (9, Spec.val (.bool true))] (by kernel_rfl) (by kernel_rfl) ?_
        simp only [List.take_succ_cons, List.take_zero, List.drop_succ_cons, List.drop_zero]
        repeat (first | (refine tree_det (by rfl) _ (by rfl) (fun W hW => by go_simp; (try simp (disch := omega) only [IntWalk.i64_in]); try rfl) ?_; simp only [Act.put, List.setIfInBounds_toArray, List.set_cons_succ, List.set_cons_zero]) | (refine tree_skip (by rfl) (by rfl) ?_; simp only [Act.put, List.setIfInBounds_toArray, List.set_cons_succ, List.set_cons_zero]))
        refine tree_val _ (by rfl) (by rfl) 37 _ (fun W hW => by go_simp; try rfl) (fun W hE hF => by exact HHK.out W (bgo HD14.out (bgo HD15.out (bgo HD16.out (Ext.below (show Ext [] wr W from hE)))))) ?_
        simp only [Act.put, List.setIfInBounds_toArray, List.set_cons_succ, List.set_cons_zero]
        repeat (first | (refine tree_det (by rfl) _ (by rfl) (fun W hW => by go_simp; (try simp (disch := omega) only [IntWalk.i64_in]); try rfl) ?_; simp only [Act.put, List.setIfInBounds_toArray, List.set_cons_succ, List.set_cons_zero]) | (refine tree_skip (by rfl) (by rfl) ?_; simp only [Act.put, List.setIfInBounds_toArray, List.set_cons_succ, List.set_cons_zero]))
        refine tree_val _ (by rfl) (by rfl) 43 _ (fun W hW => by go_simp; try rfl) (fun W hE hF => by exact by have := In_any m h.die h.burn W; rw [HIB.out] at this; exact this) ?_
        simp only [Act.put, List.setIfInBounds_toArray, List.set_cons_succ, List.set_cons_zero]
        repeat (first | (refine tree_det (by rfl) _ (by rfl) (fun W hW => by go_simp; (try simp (disch := omega) only [IntWalk.i64_in]); try rfl) ?_; simp only [Act.put, List.setIfInBounds_toArray, List.set_cons_succ, List.set_cons_zero]) | (refine tree_skip (by rfl) (by rfl) ?_; simp only [Act.put, List.setIfInBounds_toArray, List.set_cons_succ, List.set_cons_zero]))
        intro W18 hE hF
        have HE := Lib.hid (show Ext [] wr W18 from hE)
        clear hE hF hcr hcd hct
        go_wp2_with fail
        go_roundw
        case rel => exact ⟨k + 1, by omega, by go_num, bgo HD16.out HE.out.below⟩
        case measure => simp [intOf]; omega
    case true.false =>
      go_wp2_with fail
      refine wp_region_rg 48 [] none [(7, Spec.val (.bool true))] (by kernel_rfl) (by kernel_rfl) ?_
      simp only [List.take_succ_cons, List.take_zero, List.drop_succ_cons, List.drop_zero]
      repeat (first | (refine tree_det (by rfl) _ (by rfl) (fun W hW => by go_simp; (try simp (disch := omega) only [IntWalk.i64_in]); try rfl) ?_; simp only [Act.put, List.setIfInBounds_toArray, List.set_cons_succ, List.set_cons_zero]) | (refine tree_skip (by rfl) (by rfl) ?_; simp only [Act.put, List.setIfInBounds_toArray, List.set_cons_succ, List.set_cons_zero]))
      refine tree_val _ (by rfl) (by rfl) 43 _ (fun W hW => by go_simp; try rfl) (fun W hE hF => by exact by have := In_any (i : Int) 0 h.last W; rw [HIN.out] at this; exact this) ?_
      simp only [Act.put, List.setIfInBounds_toArray, List.set_cons_succ, List.set_cons_zero]
      repeat (first | (refine tree_det (by rfl) _ (by rfl) (fun W hW => by go_simp; (try simp (disch := omega) only [IntWalk.i64_in]); try rfl) ?_; simp only [Act.put, List.setIfInBounds_toArray, List.set_cons_succ, List.set_cons_zero]) | (refine tree_skip (by rfl) (by rfl) ?_; simp only [Act.put, List.setIfInBounds_toArray, List.set_cons_succ, List.set_cons_zero]))
      intro W14 hE hF
      have hb := Ext.below (show Ext [] W13 W14 from hE)
      (try clear hcr hsr)
      have HD14 := Lib.hid hb
      have HB14 := Lib.hid (bgo HB13.out hb)
      obtain ⟨hcr, _, hsr⟩ := cells_of_block ((HB14.out.block w.heap.size (by simp)).trans (heap_new0 w _))
      clear hb
      have HDB14 := Lib.hid ((HD14.out.block _ (Array.getElem?_eq_some_iff.1 HDB13.out).1).trans HDB13.out)
      clear hE hF hcd hsd f1 f2
      obtain ⟨J, hJ⟩ : ∃ J : Nat, (wh : Int) % (es.length : Int) = J := Int.eq_ofNat_of_zero_le (Int.emod_nonneg _ (by omega))
      have hJI : (J : Int) < es.length := by have := Int.emod_lt_of_pos (wh : Int) (show 0 < (es.length : Int) by omega); omega
      have hJl : J < es.length := by omega
      obtain ⟨be, offe, hoe, hbe, g1, g2⟩ := TEAt.cell (SlAt.below HV13.out.1 HD14.out (Nat.le_refl _)) hJl
      subst hoe
      have hee := HV13.out.2.2 _ (List.getElem_mem hJl)
      have hm : teP es[J] ∈ truthsR h := by rw [← HV13.out.2.1]; exact List.mem_map.2 ⟨_, List.getElem_mem hJl, rfl⟩
      have hoo := HOKT.out _ hm
      have hq := fun j hj => HQ4.out j hj _ hm
      generalize es[J] = e at *
      obtain ⟨start, ve, wet⟩ := e
      obtain ⟨oq, cq, rfl⟩ := SlAt.open (show IntsAt W13 ve wet from hee)
      have how : (h.last + 1).toNat ≤ wet.length := hoo.2
      have HHT := Lib.hid (fun (k : Nat) (hk : k < i) (W : World) (hW : Below W13.heap.size W13 W) => Heat_at h (start, wet) hoo.1 ow ot ox h.wet.length cw h.turns.length ct h.readings.length cx (.slice oq wet.length cq) (.slice o2 (turnedL h bs).length k2) (turnedL h bs) k W (by show k < wet.length; omega) (by omega) (SlAt.below (show IntsAt W13 (.slice oq wet.length cq) wet from hee) hW (Nat.le_refl _)) (HT13.out.below hW (Nat.le_refl _)))
      have HQI : Hid (∀ j, j < i → inB (heatAt h.size h.cool (turnedL h bs) start wet (j + 1)) h.die h.burn = true) := Lib.hid hq
      clear hee hm hoo hq how
      go_wp2_with fail
      refine gworld fun W15 hW15 => ?_
      have hb : Below W14.heap.size W14 W15 := by rw [hW15]; exact (by repeat (first | exact Below.refl _ _ | assumption | refine bgo ?_ (by assumption) | refine bgoAlloc ?_ _ | refine bgoDrew ?_ | refine bgoSet ?_ (by simp; omega) _))
      have HTB15 := Lib.hid (show W15.heap[W14.heap.size]? = some (.cells #[iv start, .slice oq wet.length cq] 66 (0, 0)) from by rw [hW15]; exact heap_new0 _ _)
      clear hW15 g1 g2
      (try clear hcr hsr)
      have HD15 := Lib.hid hb
      have HB15 := Lib.hid (bgo HB14.out hb)
      obtain ⟨hcr, _, hsr⟩ := cells_of_block ((HB15.out.block w.heap.size (by simp)).trans (heap_new0 w _))
      clear hb
      have HDB15 := Lib.hid ((HD15.out.block _ (Array.getElem?_eq_some_iff.1 HDB14.out).1).trans HDB14.out)
      go_loopw [16] (fun u wr => ∃ k : Nat, k ≤ i ∧ u = .int .i64 k ∧ Below W15.heap.size W15 wr) (fun u _ => i - (intOf u).toNat)
      case atStart => exact ⟨0, Nat.zero_le _, rfl, Below.refl _ _⟩
      case round =>
        obtain ⟨k, hk, rfl, hB⟩ := hrel
        have hb := hB
        (try clear hcr hsr)
        have HD16 := Lib.hid hb
        have HB16 := Lib.hid (bgo HB15.out hb)
        obtain ⟨hcr, _, hsr⟩ := cells_of_block ((HB16.out.block w.heap.size (by simp)).trans (heap_new0 w _))
        clear hb
        have HDB16 := Lib.hid ((HD16.out.block _ (Array.getElem?_eq_some_iff.1 HDB15.out).1).trans HDB15.out)
        obtain ⟨hcd, _, hsd⟩ := cells_of_block HDB16.out
        obtain ⟨hct, _, hst⟩ := cells_of_block ((hB.block _ (cells_of_block HTB15.out).2.2).trans HTB15.out)
        clear hB
        by_cases hlt : k < i
        case neg =>
          obtain rfl : k = i := by omega
          go_wp2_with fail
          refine (awake_any _).mono ?_
          rintro e W17 ⟨rfl, hb⟩
          (try clear hcr hsr)
          have HD17 := Lib.hid hb
          have HB17 := Lib.hid (bgo HB16.out hb)
          obtain ⟨hcr, _, hsr⟩ := cells_of_block ((HB17.out.block w.heap.size (by simp)).trans (heap_new0 w _))
          clear hb
          go_wp2_with fail
          go_returns
          exact ⟨by simp, bgo (bgoAlloc (Below.refl _ _) _) HB17.out⟩
        have hltI : (k : Int) < i := by omega
        obtain ⟨m, hm⟩ : ∃ m, heatAt h.size h.cool (turnedL h bs) start wet (k + 1) = m := ⟨_, rfl⟩
        have HIB : Hid (inB m h.die h.burn = true) := Lib.hid (by rw [← hm]; exact HQI.out k hlt)
        have HHK := Lib.hid (fun (W : World) (hW : Below W13.heap.size W13 W) => HHT.out k hlt W hW)
        rw [hm] at HHK
        clear hm
        go_wp2_with fail
        refine wp_region_rg 11 [] none [(4, Spec.val (iv m)), (9, Spec.val (.bool true))] (by kernel_rfl) (by kernel_rfl) ?_
        simp only [List.take_succ_cons, List.take_zero, List.drop_succ_cons, List.drop_zero]
        repeat (first | (refine tree_det (by rfl) _ (by rfl) (fun W hW => by go_simp; (try simp (disch := omega) only [IntWalk.i64_in]); try rfl) ?_; simp only [Act.put, List.setIfInBounds_toArray, List.set_cons_succ, List.set_cons_zero]) | (refine tree_skip (by rfl) (by rfl) ?_; simp only [Act.put, List.setIfInBounds_toArray, List.set_cons_succ, List.set_cons_zero]))
        refine tree_val _ (by rfl) (by rfl) 37 _ (fun W hW => by go_simp; try rfl) (fun W hE hF => by exact HHK.out W (bgo HD14.out (bgo HD15.out (bgo HD16.out (Ext.below (show Ext [] wr W from hE)))))) ?_
        simp only [Act.put, List.setIfInBounds_toArray, List.set_cons_succ, List.set_cons_zero]
        repeat (first | (refine tree_det (by rfl) _ (by rfl) (fun W hW => by go_simp; (try simp (disch := omega) only [IntWalk.i64_in]); try rfl) ?_; simp only [Act.put, List.setIfInBounds_toArray, List.set_cons_succ, List.set_cons_zero]) | (refine tree_skip (by rfl) (by rfl) ?_; simp only [Act.put, List.setIfInBounds_toArray, List.set_cons_succ, List.set_cons_zero]))
        refine tree_val _ (by rfl) (by rfl) 43 _ (fun W hW => by go_simp; try rfl) (fun W hE hF => by exact by have := In_any m h.die h.burn W; rw [HIB.out] at this; exact this) ?_
        simp only [Act.put, List.setIfInBounds_toArray, List.set_cons_succ, List.set_cons_zero]
        repeat (first | (refine tree_det (by rfl) _ (by rfl) (fun W hW => by go_simp; (try simp (disch := omega) only [IntWalk.i64_in]); try rfl) ?_; simp only [Act.put, List.setIfInBounds_toArray, List.set_cons_succ, List.set_cons_zero]) | (refine tree_skip (by rfl) (by rfl) ?_; simp only [Act.put, List.setIfInBounds_toArray, List.set_cons_succ, List.set_cons_zero]))
        intro W18 hE hF
        have HE := Lib.hid (show Ext [] wr W18 from hE)
        clear hE hF hcr hcd hct
        go_wp2_with fail
        go_roundw
        case rel => exact ⟨k + 1, by omega, by go_num, bgo HD16.out HE.out.below⟩
        case measure => simp [intOf]; omega
    case true.true =>
      go_wp2_with fail
      refine wp_region_rg 48 [] none [(7, Spec.val (.bool true))] (by kernel_rfl) (by kernel_rfl) ?_
      simp only [List.take_succ_cons, List.take_zero, List.drop_succ_cons, List.drop_zero]
      repeat (first | (refine tree_det (by rfl) _ (by rfl) (fun W hW => by go_simp; (try simp (disch := omega) only [IntWalk.i64_in]); try rfl) ?_; simp only [Act.put, List.setIfInBounds_toArray, List.set_cons_succ, List.set_cons_zero]) | (refine tree_skip (by rfl) (by rfl) ?_; simp only [Act.put, List.setIfInBounds_toArray, List.set_cons_succ, List.set_cons_zero]))
      refine tree_val _ (by rfl) (by rfl) 43 _ (fun W hW => by go_simp; try rfl) (fun W hE hF => by exact by have := In_any (i : Int) 0 h.last W; rw [HIN.out] at this; exact this) ?_
      simp only [Act.put, List.setIfInBounds_toArray, List.set_cons_succ, List.set_cons_zero]
      repeat (first | (refine tree_det (by rfl) _ (by rfl) (fun W hW => by go_simp; (try simp (disch := omega) only [IntWalk.i64_in]); try rfl) ?_; simp only [Act.put, List.setIfInBounds_toArray, List.set_cons_succ, List.set_cons_zero]) | (refine tree_skip (by rfl) (by rfl) ?_; simp only [Act.put, List.setIfInBounds_toArray, List.set_cons_succ, List.set_cons_zero]))
      intro W14 hE hF
      have hb := Ext.below (show Ext [] W13 W14 from hE)
      (try clear hcr hsr)
      have HD14 := Lib.hid hb
      have HB14 := Lib.hid (bgo HB13.out hb)
      obtain ⟨hcr, _, hsr⟩ := cells_of_block ((HB14.out.block w.heap.size (by simp)).trans (heap_new0 w _))
      clear hb
      have HDB14 := Lib.hid ((HD14.out.block _ (Array.getElem?_eq_some_iff.1 HDB13.out).1).trans HDB13.out)
      clear hE hF hcd hsd f1 f2
      obtain ⟨J, hJ⟩ : ∃ J : Nat, (wh : Int) % (es.length : Int) = J := Int.eq_ofNat_of_zero_le (Int.emod_nonneg _ (by omega))
      have hJI : (J : Int) < es.length := by have := Int.emod_lt_of_pos (wh : Int) (show 0 < (es.length : Int) by omega); omega
      have hJl : J < es.length := by omega
      obtain ⟨be, offe, hoe, hbe, g1, g2⟩ := TEAt.cell (SlAt.below HV13.out.1 HD14.out (Nat.le_refl _)) hJl
      subst hoe
      have hee := HV13.out.2.2 _ (List.getElem_mem hJl)
      have hm : teP es[J] ∈ truthsR h := by rw [← HV13.out.2.1]; exact List.mem_map.2 ⟨_, List.getElem_mem hJl, rfl⟩
      have hoo := HOKT.out _ hm
      have hq := fun j hj => HQ4.out j hj _ hm
      generalize es[J] = e at *
      obtain ⟨start, ve, wet⟩ := e
      obtain ⟨oq, cq, rfl⟩ := SlAt.open (show IntsAt W13 ve wet from hee)
      have how : (h.last + 1).toNat ≤ wet.length := hoo.2
      have HHT := Lib.hid (fun (k : Nat) (hk : k < i) (W : World) (hW : Below W13.heap.size W13 W) => Heat_at h (start, wet) hoo.1 ow ot ox h.wet.length cw h.turns.length ct h.readings.length cx (.slice oq wet.length cq) (.slice o2 (turnedL h bs).length k2) (turnedL h bs) k W (by show k < wet.length; omega) (by omega) (SlAt.below (show IntsAt W13 (.slice oq wet.length cq) wet from hee) hW (Nat.le_refl _)) (HT13.out.below hW (Nat.le_refl _)))
      have HQI : Hid (∀ j, j < i → inB (heatAt h.size h.cool (turnedL h bs) start wet (j + 1)) h.die h.burn = true) := Lib.hid hq
      clear hee hm hoo hq how
      go_wp2_with fail
      refine gworld fun W15 hW15 => ?_
      have hb : Below W14.heap.size W14 W15 := by rw [hW15]; exact (by repeat (first | exact Below.refl _ _ | assumption | refine bgo ?_ (by assumption) | refine bgoAlloc ?_ _ | refine bgoDrew ?_ | refine bgoSet ?_ (by simp; omega) _))
      have HTB15 := Lib.hid (show W15.heap[W14.heap.size]? = some (.cells #[iv start, .slice oq wet.length cq] 66 (0, 0)) from by rw [hW15]; exact heap_new0 _ _)
      clear hW15 g1 g2
      (try clear hcr hsr)
      have HD15 := Lib.hid hb
      have HB15 := Lib.hid (bgo HB14.out hb)
      obtain ⟨hcr, _, hsr⟩ := cells_of_block ((HB15.out.block w.heap.size (by simp)).trans (heap_new0 w _))
      clear hb
      have HDB15 := Lib.hid ((HD15.out.block _ (Array.getElem?_eq_some_iff.1 HDB14.out).1).trans HDB14.out)
      go_loopw [16] (fun u wr => ∃ k : Nat, k ≤ i ∧ u = .int .i64 k ∧ Below W15.heap.size W15 wr) (fun u _ => i - (intOf u).toNat)
      case atStart => exact ⟨0, Nat.zero_le _, rfl, Below.refl _ _⟩
      case round =>
        obtain ⟨k, hk, rfl, hB⟩ := hrel
        have hb := hB
        (try clear hcr hsr)
        have HD16 := Lib.hid hb
        have HB16 := Lib.hid (bgo HB15.out hb)
        obtain ⟨hcr, _, hsr⟩ := cells_of_block ((HB16.out.block w.heap.size (by simp)).trans (heap_new0 w _))
        clear hb
        have HDB16 := Lib.hid ((HD16.out.block _ (Array.getElem?_eq_some_iff.1 HDB15.out).1).trans HDB15.out)
        obtain ⟨hcd, _, hsd⟩ := cells_of_block HDB16.out
        obtain ⟨hct, _, hst⟩ := cells_of_block ((hB.block _ (cells_of_block HTB15.out).2.2).trans HTB15.out)
        clear hB
        by_cases hlt : k < i
        case neg =>
          obtain rfl : k = i := by omega
          go_wp2_with fail
          refine (awake_any _).mono ?_
          rintro e W17 ⟨rfl, hb⟩
          (try clear hcr hsr)
          have HD17 := Lib.hid hb
          have HB17 := Lib.hid (bgo HB16.out hb)
          obtain ⟨hcr, _, hsr⟩ := cells_of_block ((HB17.out.block w.heap.size (by simp)).trans (heap_new0 w _))
          clear hb
          go_wp2_with fail
          go_returns
          exact ⟨by simp, bgo (bgoAlloc (Below.refl _ _) _) HB17.out⟩
        have hltI : (k : Int) < i := by omega
        obtain ⟨m, hm⟩ : ∃ m, heatAt h.size h.cool (turnedL h bs) start wet (k + 1) = m := ⟨_, rfl⟩
        have HIB : Hid (inB m h.die h.burn = true) := Lib.hid (by rw [← hm]; exact HQI.out k hlt)
        have HHK := Lib.hid (fun (W : World) (hW : Below W13.heap.size W13 W) => HHT.out k hlt W hW)
        rw [hm] at HHK
        clear hm
        go_wp2_with fail
        refine wp_region_rg 11 [] none [(4, Spec.val (iv m)), (9, Spec.val (.bool true))] (by kernel_rfl) (by kernel_rfl) ?_
        simp only [List.take_succ_cons, List.take_zero, List.drop_succ_cons, List.drop_zero]
        repeat (first | (refine tree_det (by rfl) _ (by rfl) (fun W hW => by go_simp; (try simp (disch := omega) only [IntWalk.i64_in]); try rfl) ?_; simp only [Act.put, List.setIfInBounds_toArray, List.set_cons_succ, List.set_cons_zero]) | (refine tree_skip (by rfl) (by rfl) ?_; simp only [Act.put, List.setIfInBounds_toArray, List.set_cons_succ, List.set_cons_zero]))
        refine tree_val _ (by rfl) (by rfl) 37 _ (fun W hW => by go_simp; try rfl) (fun W hE hF => by exact HHK.out W (bgo HD14.out (bgo HD15.out (bgo HD16.out (Ext.below (show Ext [] wr W from hE)))))) ?_
        simp only [Act.put, List.setIfInBounds_toArray, List.set_cons_succ, List.set_cons_zero]
        repeat (first | (refine tree_det (by rfl) _ (by rfl) (fun W hW => by go_simp; (try simp (disch := omega) only [IntWalk.i64_in]); try rfl) ?_; simp only [Act.put, List.setIfInBounds_toArray, List.set_cons_succ, List.set_cons_zero]) | (refine tree_skip (by rfl) (by rfl) ?_; simp only [Act.put, List.setIfInBounds_toArray, List.set_cons_succ, List.set_cons_zero]))
        refine tree_val _ (by rfl) (by rfl) 43 _ (fun W hW => by go_simp; try rfl) (fun W hE hF => by exact by have := In_any m h.die h.burn W; rw [HIB.out] at this; exact this) ?_
        simp only [Act.put, List.setIfInBounds_toArray, List.set_cons_succ, List.set_cons_zero]
        repeat (first | (refine tree_det (by rfl) _ (by rfl) (fun W hW => by go_simp; (try simp (disch := omega) only [IntWalk.i64_in]); try rfl) ?_; simp only [Act.put, List.setIfInBounds_toArray, List.set_cons_succ, List.set_cons_zero]) | (refine tree_skip (by rfl) (by rfl) ?_; simp only [Act.put, List.setIfInBounds_toArray, List.set_cons_succ, List.set_cons_zero]))
        intro W18 hE hF
        have HE := Lib.hid (show Ext [] wr W18 from hE)
        clear hE hF hcr hcd hct
        go_wp2_with fail
        go_roundw
        case rel => exact ⟨k + 1, by omega, by go_num, bgo HD16.out HE.out.below⟩
        case measure => simp [intOf]; omega

end Go.Proofs.Ytoibfafmnaooaaa
