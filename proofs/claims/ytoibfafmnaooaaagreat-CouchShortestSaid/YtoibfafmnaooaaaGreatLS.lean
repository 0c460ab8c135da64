/-
  The walk of CouchShortest: whatever the heap, the truth's number and the turnings by bits, it returns true; nothing that was there has turned.
-/
import Derived.WalkKit
import Derived.WalkLawsBesides
import Derived.WalkSpells
import Derived.Outline
import Derived.Handy
import Derived.KernelRfl
import Derived.Lib.Hide
import Derived.Test.YtoibfafmnaooaaaGreatSZ
namespace Go.Proofs.YtoibfafmnaooaaaGreat
open Go.RowKit Go.RG Go.SL Go.Shelf Cou
set_option maxHeartbeats 400000
set_option maxRecDepth 10000

theorem keeps_safe {h : HeapD} (hS : Sound h) {l : List Int} (ha : askErr h l = 0) : keepsV h l = 1 ↔ safeL h l = true := by
  rw [safe_keepsR hS, keeps_eq ha]

set_option maxHeartbeats 4000000 in
theorem CouchShortest_any (h : HeapD) (wv tv xv' : Value) (wh bs : Nat) (w : World) (hw : PairsAt w wv h.wet) (ht : IntsAt w tv h.turns) (hx : TriplesAt w xv' h.readings) (hwh : (wh : Int) ≤ 65535) (hbs : (bs : Int) ≤ 65535) :
    Calls Tryz.prog 4 #[hv h wv tv xv', .int .u16 wh, .int .u16 bs] w (PV (.bool true) w) := by
  obtain ⟨ow, cw, rfl⟩ := hw.open
  obtain ⟨ot, ct, rfl⟩ := ht.open
  obtain ⟨ox, cx, rfl⟩ := hx.open
  have HW := Lib.hid hw
  have HT := Lib.hid ht
  have HX := Lib.hid hx
  clear hw ht hx
  have HB0 := Lib.hid (Below.refl (w.alloc (.cells #[.int .i64 h.last, .int .i64 h.size, .int .i64 h.cool, .int .i64 h.die, .int .i64 h.burn, .int .i64 h.start.1, .int .i64 h.start.2, .slice ow h.wet.length cw, .slice ot h.turns.length ct, .slice ox h.readings.length cx] 28)).heap.size (w.alloc (.cells #[.int .i64 h.last, .int .i64 h.size, .int .i64 h.cool, .int .i64 h.die, .int .i64 h.burn, .int .i64 h.start.1, .int .i64 h.start.2, .slice ow h.wet.length cw, .slice ot h.turns.length ct, .slice ox h.readings.length cx] 28)))
  cases hry : readyB h
  case false =>
    have HR := Lib.hid hry
    clear hry
    go_enter Tryz.func4, Tryz.ntmps4
    go_wp2_with fail
    refine (ready_any h _ _ _ _ ((HW.out.alloc _).below HB0.out (Nat.le_refl _)) ((HT.out.alloc _).below HB0.out (Nat.le_refl _)) ((HX.out.alloc _).below HB0.out (Nat.le_refl _))).mono ?_
    rw [HR.out]
    rintro e W1 ⟨rfl, hb⟩
    (try clear hcr hsr)
    have HD1 := Lib.hid hb
    have HB1 := Lib.hid (bgo HB0.out hb)
    obtain ⟨hcr, _, hsr⟩ := cells_of_block ((HB1.out.block w.heap.size (by simp)).trans (heap_new0 w _))
    clear hb
    go_wp2_with fail
    refine (awake_any _).mono ?_
    rintro e W2 ⟨rfl, hb⟩
    (try clear hcr hsr)
    have HD2 := Lib.hid hb
    have HB2 := Lib.hid (bgo HB1.out hb)
    obtain ⟨hcr, _, hsr⟩ := cells_of_block ((HB2.out.block w.heap.size (by simp)).trans (heap_new0 w _))
    clear hb
    go_wp2_with fail
    go_returns
    exact ⟨by simp, bgo (bgoAlloc (Below.refl _ _) _) HB2.out⟩
  obtain ⟨hS, hf0, _, hl12⟩ := ready_sound hry
  have hw10 : h.wet.length ≤ 10 := by have := hS.wetLen; have := hS.last9; omega
  have hx5 := hS.rdgs
  have hl0 := hS.last0
  have hl9 := hS.last9
  have HR := Lib.hid hry
  have HS := Lib.hid hS
  have htu := turned_turns (h := h) hl0 bs
  have hTI := (turns_inc hl0 _).1 htu
  have hTL : (turnedL h bs).length ≤ 10 := by
    have := hTI.len
    omega
  have haw := ask_of' hS
  have hat := ask_turns hS htu
  obtain ⟨kp, hkp⟩ : ∃ kp, (askErr h (turnedL h bs) == 0 && keepsV h (turnedL h bs) == 1) = kp := ⟨_, rfl⟩
  have HKP := Lib.hid hkp
  cases hte : (truthsL h []).isEmpty
  case true =>
    rw [hte] at haw hat
    have ha : askErr h [] = 11 := haw
    have HFW : Hid (fewErr h = 11 ∧ fewL h = []) := Lib.hid ⟨by unfold fewErr; rw [ha]; rfl, by unfold fewL; rw [ha]; rfl⟩
    obtain rfl : kp = false := by rw [← hkp, hat]; rfl
    have hnil : (truthsR h).length = 0 := by
      rw [List.length_eq_zero_iff, List.eq_nil_iff_forall_not_mem]
      intro t hm
      have := (truthsR_mem hS t).1 hm
      rw [List.isEmpty_iff.1 hte] at this
      cases this
    clear hry hS hf0 htu hTI haw hat hkp ha hte
    go_enter Tryz.func4, Tryz.ntmps4
    go_wp2_with fail
    refine (ready_any h _ _ _ _ ((HW.out.alloc _).below HB0.out (Nat.le_refl _)) ((HT.out.alloc _).below HB0.out (Nat.le_refl _)) ((HX.out.alloc _).below HB0.out (Nat.le_refl _))).mono ?_
    rw [HR.out]
    rintro e W1 ⟨rfl, hb⟩
    (try clear hcr hsr)
    have HD1 := Lib.hid hb
    have HB1 := Lib.hid (bgo HB0.out hb)
    obtain ⟨hcr, _, hsr⟩ := cells_of_block ((HB1.out.block w.heap.size (by simp)).trans (heap_new0 w _))
    clear hb
    go_wp2_with fail
    refine (Heap_any h _ _ _ _ ((HW.out.alloc _).below HB1.out (Nat.le_refl _)) ((HT.out.alloc _).below HB1.out (Nat.le_refl _)) ((HX.out.alloc _).below HB1.out (Nat.le_refl _)) (by omega) (by omega) (by omega)).mono ?_
    rintro e W2 ⟨a2, b2, c2, rfl, h1, h2, h3, hb⟩
    (try clear hcr hsr)
    have HD2 := Lib.hid hb
    have HB2 := Lib.hid (bgo HB1.out hb)
    obtain ⟨hcr, _, hsr⟩ := cells_of_block ((HB2.out.block w.heap.size (by simp)).trans (heap_new0 w _))
    clear hb
    have HH2 := Lib.hid (And.intro h1 (And.intro h2 h3))
    clear h1 h2 h3
    go_wp2_with fail
    refine (Fewest_any (h) _ _ _ _ HH2.out.1 HH2.out.2.1 HH2.out.2.2).mono ?_
    rintro e W3 ⟨v, rfl, hv, hb⟩
    rw [HFW.out.1]
    rw [HFW.out.2] at hv
    obtain ⟨o3, k3, rfl⟩ := hv.open
    have HV3 := Lib.hid hv
    clear hv
    (try clear hcr hsr)
    have HD3 := Lib.hid hb
    have HB3 := Lib.hid (bgo HB2.out hb)
    obtain ⟨hcr, _, hsr⟩ := cells_of_block ((HB3.out.block w.heap.size (by simp)).trans (heap_new0 w _))
    clear hb
    go_wp2_with fail
    refine (Truths_any h HS.out _ _ _ _ ((HW.out.alloc _).below HB3.out (Nat.le_refl _)) ((HT.out.alloc _).below HB3.out (Nat.le_refl _)) ((HX.out.alloc _).below HB3.out (Nat.le_refl _))).mono ?_
    rintro e W4 ⟨v, es, rfl, hv, hes, hi, hb⟩
    obtain ⟨oe, ce, rfl⟩ := TEAt.open hv
    have HV4 := Lib.hid (And.intro hv (And.intro hes hi))
    have hle4 := TEAt.len hv
    have hleq4 : es.length = (truthsR h).length := by rw [← hes]; simp
    clear hv hes hi
    (try clear hcr hsr)
    have HD4 := Lib.hid hb
    have HB4 := Lib.hid (bgo HB3.out hb)
    obtain ⟨hcr, _, hsr⟩ := cells_of_block ((HB4.out.block w.heap.size (by simp)).trans (heap_new0 w _))
    clear hb
    have HLEQ4 := Lib.hid hleq4
    clear hleq4
    go_wp2_with fail
    refine (turned_any h _ _ _ bs _ hl0 hl9 hbs).mono ?_
    rintro e W5 ⟨v, rfl, hv, hb⟩
    obtain ⟨o5, k5, rfl⟩ := hv.open
    have HV5 := Lib.hid hv
    clear hv
    (try clear hcr hsr)
    have HD5 := Lib.hid hb
    have HB5 := Lib.hid (bgo HB4.out hb)
    obtain ⟨hcr, _, hsr⟩ := cells_of_block ((HB5.out.block w.heap.size (by simp)).trans (heap_new0 w _))
    clear hb
    go_wp2_with fail
    refine (Heap_any h _ _ _ _ ((HW.out.alloc _).below HB5.out (Nat.le_refl _)) ((HT.out.alloc _).below HB5.out (Nat.le_refl _)) ((HX.out.alloc _).below HB5.out (Nat.le_refl _)) (by omega) (by omega) (by omega)).mono ?_
    rintro e W6 ⟨a6, b6, c6, rfl, h1, h2, h3, hb⟩
    (try clear hcr hsr)
    have HD6 := Lib.hid hb
    have HB6 := Lib.hid (bgo HB5.out hb)
    obtain ⟨hcr, _, hsr⟩ := cells_of_block ((HB6.out.block w.heap.size (by simp)).trans (heap_new0 w _))
    clear hb
    have HH6 := Lib.hid (And.intro h1 (And.intro h2 h3))
    clear h1 h2 h3
    go_wp2_with fail
    refine (list_any (turnedL h bs) _ _ (HV5.out.below HD6.out (Nat.le_refl _)) (by omega)).mono ?_
    rintro e W7 ⟨v, rfl, ho, hb⟩
    obtain ⟨o7, c7, rfl⟩ := owns_slice ho
    have HV7 := Lib.hid (SlAt.of_owns ho)
    clear ho
    (try clear hcr hsr)
    have HD7 := Lib.hid hb
    have HB7 := Lib.hid (bgo HB6.out hb)
    obtain ⟨hcr, _, hsr⟩ := cells_of_block ((HB7.out.block w.heap.size (by simp)).trans (heap_new0 w _))
    clear hb
    go_wp2_with fail
    refine (ProveKeeps_any h _ _ _ _ (turnedL h bs) _ (HH6.out.1.below HD7.out (Nat.le_refl _)) (HH6.out.2.1.below HD7.out (Nat.le_refl _)) (HH6.out.2.2.below HD7.out (Nat.le_refl _)) HV7.out).mono ?_
    rintro e W8 ⟨rfl, hb⟩
    rw [HKP.out]
    (try clear hcr hsr)
    have HD8 := Lib.hid hb
    have HB8 := Lib.hid (bgo HB7.out hb)
    obtain ⟨hcr, _, hsr⟩ := cells_of_block ((HB8.out.block w.heap.size (by simp)).trans (heap_new0 w _))
    clear hb
    have hl0b : es.length = 0 := HLEQ4.out.trans hnil
    have hl0c : ((es.length : Int) == 0) = true := by simp [hl0b]
    clear hl0b
    go_wp2_with fail
    refine (awake_any _).mono ?_
    rintro e W9 ⟨rfl, hb⟩
    (try clear hcr hsr)
    have HD9 := Lib.hid hb
    have HB9 := Lib.hid (bgo HB8.out hb)
    obtain ⟨hcr, _, hsr⟩ := cells_of_block ((HB9.out.block w.heap.size (by simp)).trans (heap_new0 w _))
    clear hb
    go_wp2_with fail
    go_returns
    exact ⟨by simp, bgo (bgoAlloc (Below.refl _ _) _) HB9.out⟩
  rw [hte] at haw hat
  have ha : askErr h [] = 0 := haw
  have hat' : askErr h (turnedL h bs) = 0 := hat
  have hne : (truthsR h).length ≠ 0 := fun e => by
    have e := List.eq_nil_of_length_eq_zero e
    cases hl : truthsL h [] with
    | nil => rw [hl] at hte; cases hte
    | cons a l =>
      have := (truthsR_mem hS a).2 (by rw [hl]; exact List.mem_cons_self)
      rw [e] at this
      cases this
  have hkp2 : kp = true → safeL h (turnedL h bs) = true := fun e => by
    rw [e] at hkp
    rw [← keeps_safe hS hat']
    rw [Bool.and_eq_true] at hkp
    simpa using hkp.2
  cases hfs : fewS h with
  | none =>
    have HFW : Hid (fewErr h = 10 ∧ fewL h = []) := Lib.hid ⟨by unfold fewErr; rw [ha, hfs]; rfl, by unfold fewL; rw [ha, hfs]; rfl⟩
    obtain rfl : kp = false := by
      cases kp
      · rfl
      · have := shortL_none hfs _ hTI
        rw [hkp2 rfl] at this
        cases this
    clear hry hS hf0 htu hTI haw hat hkp ha hte hat' hkp2 hfs
    go_enter Tryz.func4, Tryz.ntmps4
    go_wp2_with fail
    refine (ready_any h _ _ _ _ ((HW.out.alloc _).below HB0.out (Nat.le_refl _)) ((HT.out.alloc _).below HB0.out (Nat.le_refl _)) ((HX.out.alloc _).below HB0.out (Nat.le_refl _))).mono ?_
    rw [HR.out]
    rintro e W1 ⟨rfl, hb⟩
    (try clear hcr hsr)
    have HD1 := Lib.hid hb
    have HB1 := Lib.hid (bgo HB0.out hb)
    obtain ⟨hcr, _, hsr⟩ := cells_of_block ((HB1.out.block w.heap.size (by simp)).trans (heap_new0 w _))
    clear hb
    go_wp2_with fail
    refine (Heap_any h _ _ _ _ ((HW.out.alloc _).below HB1.out (Nat.le_refl _)) ((HT.out.alloc _).below HB1.out (Nat.le_refl _)) ((HX.out.alloc _).below HB1.out (Nat.le_refl _)) (by omega) (by omega) (by omega)).mono ?_
    rintro e W2 ⟨a2, b2, c2, rfl, h1, h2, h3, hb⟩
    (try clear hcr hsr)
    have HD2 := Lib.hid hb
    have HB2 := Lib.hid (bgo HB1.out hb)
    obtain ⟨hcr, _, hsr⟩ := cells_of_block ((HB2.out.block w.heap.size (by simp)).trans (heap_new0 w _))
    clear hb
    have HH2 := Lib.hid (And.intro h1 (And.intro h2 h3))
    clear h1 h2 h3
    go_wp2_with fail
    refine (Fewest_any (h) _ _ _ _ HH2.out.1 HH2.out.2.1 HH2.out.2.2).mono ?_
    rintro e W3 ⟨v, rfl, hv, hb⟩
    rw [HFW.out.1]
    rw [HFW.out.2] at hv
    obtain ⟨o3, k3, rfl⟩ := hv.open
    have HV3 := Lib.hid hv
    clear hv
    (try clear hcr hsr)
    have HD3 := Lib.hid hb
    have HB3 := Lib.hid (bgo HB2.out hb)
    obtain ⟨hcr, _, hsr⟩ := cells_of_block ((HB3.out.block w.heap.size (by simp)).trans (heap_new0 w _))
    clear hb
    go_wp2_with fail
    refine (Truths_any h HS.out _ _ _ _ ((HW.out.alloc _).below HB3.out (Nat.le_refl _)) ((HT.out.alloc _).below HB3.out (Nat.le_refl _)) ((HX.out.alloc _).below HB3.out (Nat.le_refl _))).mono ?_
    rintro e W4 ⟨v, es, rfl, hv, hes, hi, hb⟩
    obtain ⟨oe, ce, rfl⟩ := TEAt.open hv
    have HV4 := Lib.hid (And.intro hv (And.intro hes hi))
    have hle4 := TEAt.len hv
    have hleq4 : es.length = (truthsR h).length := by rw [← hes]; simp
    clear hv hes hi
    (try clear hcr hsr)
    have HD4 := Lib.hid hb
    have HB4 := Lib.hid (bgo HB3.out hb)
    obtain ⟨hcr, _, hsr⟩ := cells_of_block ((HB4.out.block w.heap.size (by simp)).trans (heap_new0 w _))
    clear hb
    have HLEQ4 := Lib.hid hleq4
    clear hleq4
    go_wp2_with fail
    refine (turned_any h _ _ _ bs _ hl0 hl9 hbs).mono ?_
    rintro e W5 ⟨v, rfl, hv, hb⟩
    obtain ⟨o5, k5, rfl⟩ := hv.open
    have HV5 := Lib.hid hv
    clear hv
    (try clear hcr hsr)
    have HD5 := Lib.hid hb
    have HB5 := Lib.hid (bgo HB4.out hb)
    obtain ⟨hcr, _, hsr⟩ := cells_of_block ((HB5.out.block w.heap.size (by simp)).trans (heap_new0 w _))
    clear hb
    go_wp2_with fail
    refine (Heap_any h _ _ _ _ ((HW.out.alloc _).below HB5.out (Nat.le_refl _)) ((HT.out.alloc _).below HB5.out (Nat.le_refl _)) ((HX.out.alloc _).below HB5.out (Nat.le_refl _)) (by omega) (by omega) (by omega)).mono ?_
    rintro e W6 ⟨a6, b6, c6, rfl, h1, h2, h3, hb⟩
    (try clear hcr hsr)
    have HD6 := Lib.hid hb
    have HB6 := Lib.hid (bgo HB5.out hb)
    obtain ⟨hcr, _, hsr⟩ := cells_of_block ((HB6.out.block w.heap.size (by simp)).trans (heap_new0 w _))
    clear hb
    have HH6 := Lib.hid (And.intro h1 (And.intro h2 h3))
    clear h1 h2 h3
    go_wp2_with fail
    refine (list_any (turnedL h bs) _ _ (HV5.out.below HD6.out (Nat.le_refl _)) (by omega)).mono ?_
    rintro e W7 ⟨v, rfl, ho, hb⟩
    obtain ⟨o7, c7, rfl⟩ := owns_slice ho
    have HV7 := Lib.hid (SlAt.of_owns ho)
    clear ho
    (try clear hcr hsr)
    have HD7 := Lib.hid hb
    have HB7 := Lib.hid (bgo HB6.out hb)
    obtain ⟨hcr, _, hsr⟩ := cells_of_block ((HB7.out.block w.heap.size (by simp)).trans (heap_new0 w _))
    clear hb
    go_wp2_with fail
    refine (ProveKeeps_any h _ _ _ _ (turnedL h bs) _ (HH6.out.1.below HD7.out (Nat.le_refl _)) (HH6.out.2.1.below HD7.out (Nat.le_refl _)) (HH6.out.2.2.below HD7.out (Nat.le_refl _)) HV7.out).mono ?_
    rintro e W8 ⟨rfl, hb⟩
    rw [HKP.out]
    (try clear hcr hsr)
    have HD8 := Lib.hid hb
    have HB8 := Lib.hid (bgo HB7.out hb)
    obtain ⟨hcr, _, hsr⟩ := cells_of_block ((HB8.out.block w.heap.size (by simp)).trans (heap_new0 w _))
    clear hb
    have hl0c : ((es.length : Int) == 0) = false := by rw [beq_eq_false_iff_ne]; have := HLEQ4.out; omega
    go_wp2_with fail
    refine (awake_any _).mono ?_
    rintro e W9 ⟨rfl, hb⟩
    (try clear hcr hsr)
    have HD9 := Lib.hid hb
    have HB9 := Lib.hid (bgo HB8.out hb)
    obtain ⟨hcr, _, hsr⟩ := cells_of_block ((HB9.out.block w.heap.size (by simp)).trans (heap_new0 w _))
    clear hb
    go_wp2_with fail
    go_returns
    exact ⟨by simp, bgo (bgoAlloc (Below.refl _ _) _) HB9.out⟩
  | some fw =>
    have HFW : Hid (fewErr h = 0 ∧ fewL h = fw) := Lib.hid ⟨by unfold fewErr; rw [ha, hfs]; rfl, by unfold fewL; rw [ha, hfs]; rfl⟩
    obtain ⟨c1, c2, c3⟩ := shortL_some hfs
    have hct := (turns_inc hl0 fw).2 c2
    have hcl : fw.length ≤ 10 := by have := c2.len; omega
    have hca : askErr h fw = 0 := by rw [ask_turns hS hct, hte]; rfl
    have HIT := Lib.hid hct
    have HKA : Hid (∀ t ∈ truthsR h, keptR h fw t = true) := Lib.hid (keepsR_one.1 ((safe_keepsR hS fw).1 c1))
    have HPK : Hid ((askErr h fw == 0 && keepsV h fw == 1) = true) := Lib.hid (by rw [hca, (keeps_safe hS hca).2 c1]; rfl)
    have HSH : Hid (kp = true → shorter (turnedL h bs) fw = false) := Lib.hid (fun e => c3 _ hTI (hkp2 e))
    have HOKT : Hid (∀ t ∈ truthsR h, HeatOk h t ∧ (h.last + 1).toNat ≤ t.2.length) := Lib.hid (fun t hm => by
      obtain ⟨j, _, e, _⟩ := (truthsTo_mem h t _).1 hm
      exact ⟨by rw [← e]; exact heatOk_of hS (nthT_listed hS _), truth_len hS ((truthsR_mem hS t).1 hm)⟩)
    clear hry hS hf0 htu hTI haw hat hkp ha hte hat' hkp2 hfs c1 c2 c3 hct hca
    go_enter Tryz.func4, Tryz.ntmps4
    go_wp2_with fail
    refine (ready_any h _ _ _ _ ((HW.out.alloc _).below HB0.out (Nat.le_refl _)) ((HT.out.alloc _).below HB0.out (Nat.le_refl _)) ((HX.out.alloc _).below HB0.out (Nat.le_refl _))).mono ?_
    rw [HR.out]
    rintro e W1 ⟨rfl, hb⟩
    (try clear hcr hsr)
    have HD1 := Lib.hid hb
    have HB1 := Lib.hid (bgo HB0.out hb)
    obtain ⟨hcr, _, hsr⟩ := cells_of_block ((HB1.out.block w.heap.size (by simp)).trans (heap_new0 w _))
    clear hb
    go_wp2_with fail
    refine (Heap_any h _ _ _ _ ((HW.out.alloc _).below HB1.out (Nat.le_refl _)) ((HT.out.alloc _).below HB1.out (Nat.le_refl _)) ((HX.out.alloc _).below HB1.out (Nat.le_refl _)) (by omega) (by omega) (by omega)).mono ?_
    rintro e W2 ⟨a2, b2, c2, rfl, h1, h2, h3, hb⟩
    (try clear hcr hsr)
    have HD2 := Lib.hid hb
    have HB2 := Lib.hid (bgo HB1.out hb)
    obtain ⟨hcr, _, hsr⟩ := cells_of_block ((HB2.out.block w.heap.size (by simp)).trans (heap_new0 w _))
    clear hb
    have HH2 := Lib.hid (And.intro h1 (And.intro h2 h3))
    clear h1 h2 h3
    go_wp2_with fail
    refine (Fewest_any (h) _ _ _ _ HH2.out.1 HH2.out.2.1 HH2.out.2.2).mono ?_
    rintro e W3 ⟨v, rfl, hv, hb⟩
    rw [HFW.out.1]
    rw [HFW.out.2] at hv
    obtain ⟨o3, k3, rfl⟩ := hv.open
    have HV3 := Lib.hid hv
    clear hv
    (try clear hcr hsr)
    have HD3 := Lib.hid hb
    have HB3 := Lib.hid (bgo HB2.out hb)
    obtain ⟨hcr, _, hsr⟩ := cells_of_block ((HB3.out.block w.heap.size (by simp)).trans (heap_new0 w _))
    clear hb
    go_wp2_with fail
    refine (Truths_any h HS.out _ _ _ _ ((HW.out.alloc _).below HB3.out (Nat.le_refl _)) ((HT.out.alloc _).below HB3.out (Nat.le_refl _)) ((HX.out.alloc _).below HB3.out (Nat.le_refl _))).mono ?_
    rintro e W4 ⟨v, es, rfl, hv, hes, hi, hb⟩
    obtain ⟨oe, ce, rfl⟩ := TEAt.open hv
    have HV4 := Lib.hid (And.intro hv (And.intro hes hi))
    have hle4 := TEAt.len hv
    have hleq4 : es.length = (truthsR h).length := by rw [← hes]; simp
    clear hv hes hi
    (try clear hcr hsr)
    have HD4 := Lib.hid hb
    have HB4 := Lib.hid (bgo HB3.out hb)
    obtain ⟨hcr, _, hsr⟩ := cells_of_block ((HB4.out.block w.heap.size (by simp)).trans (heap_new0 w _))
    clear hb
    have HLEQ4 := Lib.hid hleq4
    clear hleq4
    go_wp2_with fail
    refine (turned_any h _ _ _ bs _ hl0 hl9 hbs).mono ?_
    rintro e W5 ⟨v, rfl, hv, hb⟩
    obtain ⟨o5, k5, rfl⟩ := hv.open
    have HV5 := Lib.hid hv
    clear hv
    (try clear hcr hsr)
    have HD5 := Lib.hid hb
    have HB5 := Lib.hid (bgo HB4.out hb)
    obtain ⟨hcr, _, hsr⟩ := cells_of_block ((HB5.out.block w.heap.size (by simp)).trans (heap_new0 w _))
    clear hb
    go_wp2_with fail
    refine (Heap_any h _ _ _ _ ((HW.out.alloc _).below HB5.out (Nat.le_refl _)) ((HT.out.alloc _).below HB5.out (Nat.le_refl _)) ((HX.out.alloc _).below HB5.out (Nat.le_refl _)) (by omega) (by omega) (by omega)).mono ?_
    rintro e W6 ⟨a6, b6, c6, rfl, h1, h2, h3, hb⟩
    (try clear hcr hsr)
    have HD6 := Lib.hid hb
    have HB6 := Lib.hid (bgo HB5.out hb)
    obtain ⟨hcr, _, hsr⟩ := cells_of_block ((HB6.out.block w.heap.size (by simp)).trans (heap_new0 w _))
    clear hb
    have HH6 := Lib.hid (And.intro h1 (And.intro h2 h3))
    clear h1 h2 h3
    go_wp2_with fail
    refine (list_any (turnedL h bs) _ _ (HV5.out.below HD6.out (Nat.le_refl _)) (by omega)).mono ?_
    rintro e W7 ⟨v, rfl, ho, hb⟩
    obtain ⟨o7, c7, rfl⟩ := owns_slice ho
    have HV7 := Lib.hid (SlAt.of_owns ho)
    clear ho
    (try clear hcr hsr)
    have HD7 := Lib.hid hb
    have HB7 := Lib.hid (bgo HB6.out hb)
    obtain ⟨hcr, _, hsr⟩ := cells_of_block ((HB7.out.block w.heap.size (by simp)).trans (heap_new0 w _))
    clear hb
    go_wp2_with fail
    refine (ProveKeeps_any h _ _ _ _ (turnedL h bs) _ (HH6.out.1.below HD7.out (Nat.le_refl _)) (HH6.out.2.1.below HD7.out (Nat.le_refl _)) (HH6.out.2.2.below HD7.out (Nat.le_refl _)) HV7.out).mono ?_
    rintro e W8 ⟨rfl, hb⟩
    rw [HKP.out]
    (try clear hcr hsr)
    have HD8 := Lib.hid hb
    have HB8 := Lib.hid (bgo HB7.out hb)
    obtain ⟨hcr, _, hsr⟩ := cells_of_block ((HB8.out.block w.heap.size (by simp)).trans (heap_new0 w _))
    clear hb
    have hesn : es.length ≠ 0 := by have := HLEQ4.out; omega
    have hl0c : ((es.length : Int) == 0) = false := by rw [beq_eq_false_iff_ne]; omega
    obtain ⟨J, hJ⟩ : ∃ J : Nat, (wh : Int) % (es.length : Int) = J := Int.eq_ofNat_of_zero_le (Int.emod_nonneg _ (by omega))
    have hJI : (J : Int) < es.length := by have := Int.emod_lt_of_pos (wh : Int) (show 0 < (es.length : Int) by omega); omega
    have hJl : J < es.length := by omega
    have HNZ : Hid (¬ es = []) := Lib.hid (fun e => hesn (by rw [e]; rfl))
    have HD48 := Lib.hid (bgo (bgo HD5.out HD6.out) (bgo HD7.out HD8.out))
    obtain ⟨be, offe, hoe, hbe, g1, g2⟩ := TEAt.cell (SlAt.below HV4.out.1 HD48.out (Nat.le_refl _)) hJl
    subst hoe
    have hee := HV4.out.2.2 _ (List.getElem_mem hJl)
    have hm : teP es[J] ∈ truthsR h := by rw [← HV4.out.2.1]; exact List.mem_map.2 ⟨_, List.getElem_mem hJl, rfl⟩
    have hoo := HOKT.out _ hm
    have hka := HKA.out _ hm
    generalize es[J] = e at *
    obtain ⟨start, ve, wet⟩ := e
    obtain ⟨oq, cq, rfl⟩ := SlAt.open (show IntsAt W4 ve wet from hee)
    have HX3 : Hid (IntsAt W8 (.slice o3 fw.length k3) fw) := Lib.hid (SlAt.below (SlAt.below HV3.out HD4.out (Nat.le_refl _)) HD48.out (Nat.le_refl _))
    have HT8 : Hid (IntsAt W8 (.slice o5 (turnedL h bs).length k5) (turnedL h bs)) := Lib.hid (SlAt.below (SlAt.below (SlAt.below HV5.out HD6.out (Nat.le_refl _)) HD7.out (Nat.le_refl _)) HD8.out (Nat.le_refl _))
    have HKE : Hid (∀ W, Below W8.heap.size W8 W → Calls Tryz.prog 19 #[hv h (.slice ow h.wet.length cw) (.slice ot h.turns.length ct) (.slice ox h.readings.length cx), .agg #[iv start, .slice oq wet.length cq], .slice o3 fw.length k3] W (PV (.bool true) W)) := Lib.hid (fun W hW => by
      have := Kept_any h ow ot ox h.wet.length cw h.turns.length ct h.readings.length cx (start, wet) hoo.1 (.slice oq wet.length cq) (.slice o3 fw.length k3) fw W (SlAt.below (SlAt.below (show IntsAt W4 (.slice oq wet.length cq) wet from hee) HD48.out (Nat.le_refl _)) hW (Nat.le_refl _)) (SlAt.below HX3.out hW (Nat.le_refl _)) hoo.2 hl0 hl9
      rw [show keptR h fw (start, wet) = true from hka] at this
      exact this)
    clear hee hm hoo hka hesn hne
    go_wp2_with fail
    cases kp
    case false =>
      refine wp_region_rg 37 [] none [(2, Spec.val (.bool true)), (14, Spec.val (.bool true)), (18, ⟨fun _ v => ∃ a b c, v = hv (h) a b c, fun _ v Wx => ∃ a b c, v = hv (h) a b c ∧ PairsAt Wx a (h).wet ∧ IntsAt Wx b (h).turns ∧ TriplesAt Wx c (h).readings⟩), (20, ⟨fun _ v => ∃ o c, v = .slice o (fw).length c, fun _ v Wx => IntsAt Wx v (fw)⟩), (21, Spec.val (.bool true)), (34, Spec.val (.bool true))] (by kernel_rfl) (by kernel_rfl) ?_
      simp only [List.take_succ_cons, List.take_zero, List.drop_succ_cons, List.drop_zero]
      repeat (first | (refine tree_det (by rfl) _ (by rfl) (fun W hW => by go_simp; try rfl) ?_; simp only [Act.put, List.setIfInBounds_toArray, List.set_cons_succ, List.set_cons_zero]) | (refine tree_skip (by rfl) (by rfl) ?_; simp only [Act.put, List.setIfInBounds_toArray, List.set_cons_succ, List.set_cons_zero]))
      refine tree_val _ (by rfl) (by rfl) 18 _ (fun W hW => by go_simp; try rfl) (fun W hE hF => by exact by have := IsTurns_any h (.slice ow h.wet.length cw) (.slice ot h.turns.length ct) (.slice ox h.readings.length cx) fw _ W (SlAt.below HX3.out (Ext.below (show Ext [] W8 W from hE)) (Nat.le_refl _)); rw [HIT.out] at this; exact this) ?_
      simp only [Act.put, List.setIfInBounds_toArray, List.set_cons_succ, List.set_cons_zero]
      repeat (first | (refine tree_det (by rfl) _ (by rfl) (fun W hW => by go_simp; (try simp (disch := omega) only [IntWalk.i64_in]); try rfl) ?_; simp only [Act.put, List.setIfInBounds_toArray, List.set_cons_succ, List.set_cons_zero]) | (refine tree_skip (by rfl) (by rfl) ?_; simp only [Act.put, List.setIfInBounds_toArray, List.set_cons_succ, List.set_cons_zero]))
      refine tree_det (by rfl) (.int .i64 (J : Int)) (by rfl) (fun W hW => by go_simp; (try simp (disch := omega) only [Int.tmod_eq_emod_of_nonneg]); rw [if_neg HNZ.out, hJ]) ?_
      simp only [Act.put, List.setIfInBounds_toArray, List.set_cons_succ, List.set_cons_zero]
      repeat (first | (refine tree_det (by rfl) _ (by rfl) (fun W hW => by go_simp; try rfl) ?_; simp only [Act.put, List.setIfInBounds_toArray, List.set_cons_succ, List.set_cons_zero]) | (refine tree_skip (by rfl) (by rfl) ?_; simp only [Act.put, List.setIfInBounds_toArray, List.set_cons_succ, List.set_cons_zero]))
      refine tree_val _ (by rfl) (by rfl) 19 _ (fun W hW => by go_simp; try rfl) (fun W hE hF => by exact HKE.out W (Ext.below (show Ext [] W8 W from hE))) ?_
      simp only [Act.put, List.setIfInBounds_toArray, List.set_cons_succ, List.set_cons_zero]
      repeat (first | (refine tree_det (by rfl) _ (by rfl) (fun W hW => by go_simp; try rfl) ?_; simp only [Act.put, List.setIfInBounds_toArray, List.set_cons_succ, List.set_cons_zero]) | (refine tree_skip (by rfl) (by rfl) ?_; simp only [Act.put, List.setIfInBounds_toArray, List.set_cons_succ, List.set_cons_zero]))
      refine tree_some _ (by rfl) (by rfl) (by exact ⟨_, undef, undef, undef, rfl⟩) (fun W hE hF => ?_) (fun v Wa Wb ho hE => ?_) (fun v hv => ?_)
      · have hE' : Ext [] W8 W := hE
        refine does_enter 9 #[hv h (.slice ow h.wet.length cw) (.slice ot h.turns.length ct) (.slice ox h.readings.length cx)] (by go_simp; try first | rfl | exact ⟨rfl, rfl, rfl, rfl, rfl, rfl, rfl⟩) ?_
        refine (Heap_any h _ _ _ W ((((HW.out.alloc _).below HB8.out (Nat.le_refl _))).below hE'.below (Nat.le_refl _)) ((((HT.out.alloc _).below HB8.out (Nat.le_refl _))).below hE'.below (Nat.le_refl _)) ((((HX.out.alloc _).below HB8.out (Nat.le_refl _))).below hE'.below (Nat.le_refl _)) (by omega) (by omega) (by omega)).mono ?_
        rintro e W' ⟨a, b, c, rfl, h1, h2, h3, hb⟩
        exact ⟨_, rfl, ⟨a, b, c, rfl⟩, ⟨a, b, c, rfl, h1, h2, h3⟩, Ext.of_below hb⟩
      · obtain ⟨a, b, c, hv, h1, h2, h3⟩ := ho
        have hB := Ext.below (show Ext [] Wa Wb from hE)
        exact ⟨a, b, c, hv, h1.below hB (Nat.le_refl _), h2.below hB (Nat.le_refl _), h3.below hB (Nat.le_refl _)⟩
      obtain ⟨a9, b9, c9, rfl⟩ := hv
      simp only [Act.put, List.setIfInBounds_toArray, List.set_cons_succ, List.set_cons_zero]
      repeat (first | (refine tree_det (by rfl) _ (by rfl) (fun W hW => by go_simp; try rfl) ?_; simp only [Act.put, List.setIfInBounds_toArray, List.set_cons_succ, List.set_cons_zero]) | (refine tree_skip (by rfl) (by rfl) ?_; simp only [Act.put, List.setIfInBounds_toArray, List.set_cons_succ, List.set_cons_zero]))
      refine tree_some _ (by rfl) (by rfl) (by exact ⟨.slice none (fw).length 0, none, 0, rfl⟩) (fun W hE hF => ?_) (fun v Wa Wb ho hE => SlAt.below ho (Ext.below (show Ext [] Wa Wb from hE)) (Nat.le_refl _)) (fun v hv => ?_)
      · have hE' : Ext [] W8 W := hE
        refine does_enter 17 #[.slice o3 fw.length k3] (by go_simp; try rfl) ?_
        refine (list_any (fw) _ W (SlAt.below HX3.out hE'.below (Nat.le_refl _)) (by omega)).mono ?_
        rintro e W6 ⟨v, rfl, ho, hb⟩
        exact ⟨v, rfl, owns_slice ho, SlAt.of_owns ho, Ext.of_below hb⟩
      obtain ⟨o9, k9, rfl⟩ := hv
      simp only [Act.put, List.setIfInBounds_toArray, List.set_cons_succ, List.set_cons_zero]
      refine tree_val _ (by rfl) (by rfl) 16 #[hv h a9 b9 c9, .slice o9 fw.length k9] (fun W hW => by go_simp; try rfl) (fun W hE hF => ?_) ?_
      · have htr : IntsAt W (.slice o9 fw.length k9) fw := hF _ (List.Mem.head _) (by kernel_rfl)
        obtain ⟨a', b', c', he, h1, h2, h3⟩ := hF _ (List.Mem.tail _ (List.Mem.head _)) (by kernel_rfl)
        obtain ⟨rfl, rfl, rfl⟩ := hv_inj he
        have := ProveKeeps_any h _ _ _ _ fw W h1 h2 h3 htr
        rw [HPK.out] at this
        exact this
      simp only [Act.put, List.setIfInBounds_toArray, List.set_cons_succ, List.set_cons_zero]
      repeat (first | (refine tree_det (by rfl) _ (by rfl) (fun W hW => by go_simp; try rfl) ?_; simp only [Act.put, List.setIfInBounds_toArray, List.set_cons_succ, List.set_cons_zero]) | (refine tree_skip (by rfl) (by rfl) ?_; simp only [Act.put, List.setIfInBounds_toArray, List.set_cons_succ, List.set_cons_zero]))
      refine tree_val _ (by rfl) (by rfl) 7 _ (fun W hW => by go_simp; try rfl) (fun W hE hF => by exact awake_any W) ?_
      simp only [Act.put, List.setIfInBounds_toArray, List.set_cons_succ, List.set_cons_zero]
      repeat (first | (refine tree_det (by rfl) _ (by rfl) (fun W hW => by go_simp; try rfl) ?_; simp only [Act.put, List.setIfInBounds_toArray, List.set_cons_succ, List.set_cons_zero]) | (refine tree_skip (by rfl) (by rfl) ?_; simp only [Act.put, List.setIfInBounds_toArray, List.set_cons_succ, List.set_cons_zero]))
      intro W9 hE hF
      have hb := Ext.below (show Ext [] W8 W9 from hE)
      (try clear hcr hsr)
      have HD9 := Lib.hid hb
      have HB9 := Lib.hid (bgo HB8.out hb)
      obtain ⟨hcr, _, hsr⟩ := cells_of_block ((HB9.out.block w.heap.size (by simp)).trans (heap_new0 w _))
      clear hb
      clear hE hF
      go_wp2_with fail
      go_returns
      exact ⟨by simp, bgo (bgoAlloc (Below.refl _ _) _) HB9.out⟩
    case true =>
      refine wp_region_rg 37 [] none [(2, Spec.val (.bool true)), (14, Spec.val (.bool true)), (18, ⟨fun _ v => ∃ a b c, v = hv (h) a b c, fun _ v Wx => ∃ a b c, v = hv (h) a b c ∧ PairsAt Wx a (h).wet ∧ IntsAt Wx b (h).turns ∧ TriplesAt Wx c (h).readings⟩), (20, ⟨fun _ v => ∃ o c, v = .slice o (fw).length c, fun _ v Wx => IntsAt Wx v (fw)⟩), (21, Spec.val (.bool true)), (29, Spec.val (.bool false)), (34, Spec.val (.bool true))] (by kernel_rfl) (by kernel_rfl) ?_
      simp only [List.take_succ_cons, List.take_zero, List.drop_succ_cons, List.drop_zero]
      repeat (first | (refine tree_det (by rfl) _ (by rfl) (fun W hW => by go_simp; try rfl) ?_; simp only [Act.put, List.setIfInBounds_toArray, List.set_cons_succ, List.set_cons_zero]) | (refine tree_skip (by rfl) (by rfl) ?_; simp only [Act.put, List.setIfInBounds_toArray, List.set_cons_succ, List.set_cons_zero]))
      refine tree_val _ (by rfl) (by rfl) 18 _ (fun W hW => by go_simp; try rfl) (fun W hE hF => by exact by have := IsTurns_any h (.slice ow h.wet.length cw) (.slice ot h.turns.length ct) (.slice ox h.readings.length cx) fw _ W (SlAt.below HX3.out (Ext.below (show Ext [] W8 W from hE)) (Nat.le_refl _)); rw [HIT.out] at this; exact this) ?_
      simp only [Act.put, List.setIfInBounds_toArray, List.set_cons_succ, List.set_cons_zero]
      repeat (first | (refine tree_det (by rfl) _ (by rfl) (fun W hW => by go_simp; (try simp (disch := omega) only [IntWalk.i64_in]); try rfl) ?_; simp only [Act.put, List.setIfInBounds_toArray, List.set_cons_succ, List.set_cons_zero]) | (refine tree_skip (by rfl) (by rfl) ?_; simp only [Act.put, List.setIfInBounds_toArray, List.set_cons_succ, List.set_cons_zero]))
      refine tree_det (by rfl) (.int .i64 (J : Int)) (by rfl) (fun W hW => by go_simp; (try simp (disch := omega) only [Int.tmod_eq_emod_of_nonneg]); rw [if_neg HNZ.out, hJ]) ?_
      simp only [Act.put, List.setIfInBounds_toArray, List.set_cons_succ, List.set_cons_zero]
      repeat (first | (refine tree_det (by rfl) _ (by rfl) (fun W hW => by go_simp; try rfl) ?_; simp only [Act.put, List.setIfInBounds_toArray, List.set_cons_succ, List.set_cons_zero]) | (refine tree_skip (by rfl) (by rfl) ?_; simp only [Act.put, List.setIfInBounds_toArray, List.set_cons_succ, List.set_cons_zero]))
      refine tree_val _ (by rfl) (by rfl) 19 _ (fun W hW => by go_simp; try rfl) (fun W hE hF => by exact HKE.out W (Ext.below (show Ext [] W8 W from hE))) ?_
      simp only [Act.put, List.setIfInBounds_toArray, List.set_cons_succ, List.set_cons_zero]
      repeat (first | (refine tree_det (by rfl) _ (by rfl) (fun W hW => by go_simp; try rfl) ?_; simp only [Act.put, List.setIfInBounds_toArray, List.set_cons_succ, List.set_cons_zero]) | (refine tree_skip (by rfl) (by rfl) ?_; simp only [Act.put, List.setIfInBounds_toArray, List.set_cons_succ, List.set_cons_zero]))
      refine tree_some _ (by rfl) (by rfl) (by exact ⟨_, undef, undef, undef, rfl⟩) (fun W hE hF => ?_) (fun v Wa Wb ho hE => ?_) (fun v hv => ?_)
      · have hE' : Ext [] W8 W := hE
        refine does_enter 9 #[hv h (.slice ow h.wet.length cw) (.slice ot h.turns.length ct) (.slice ox h.readings.length cx)] (by go_simp; try first | rfl | exact ⟨rfl, rfl, rfl, rfl, rfl, rfl, rfl⟩) ?_
        refine (Heap_any h _ _ _ W ((((HW.out.alloc _).below HB8.out (Nat.le_refl _))).below hE'.below (Nat.le_refl _)) ((((HT.out.alloc _).below HB8.out (Nat.le_refl _))).below hE'.below (Nat.le_refl _)) ((((HX.out.alloc _).below HB8.out (Nat.le_refl _))).below hE'.below (Nat.le_refl _)) (by omega) (by omega) (by omega)).mono ?_
        rintro e W' ⟨a, b, c, rfl, h1, h2, h3, hb⟩
        exact ⟨_, rfl, ⟨a, b, c, rfl⟩, ⟨a, b, c, rfl, h1, h2, h3⟩, Ext.of_below hb⟩
      · obtain ⟨a, b, c, hv, h1, h2, h3⟩ := ho
        have hB := Ext.below (show Ext [] Wa Wb from hE)
        exact ⟨a, b, c, hv, h1.below hB (Nat.le_refl _), h2.below hB (Nat.le_refl _), h3.below hB (Nat.le_refl _)⟩
      obtain ⟨a9, b9, c9, rfl⟩ := hv
      simp only [Act.put, List.setIfInBounds_toArray, List.set_cons_succ, List.set_cons_zero]
      repeat (first | (refine tree_det (by rfl) _ (by rfl) (fun W hW => by go_simp; try rfl) ?_; simp only [Act.put, List.setIfInBounds_toArray, List.set_cons_succ, List.set_cons_zero]) | (refine tree_skip (by rfl) (by rfl) ?_; simp only [Act.put, List.setIfInBounds_toArray, List.set_cons_succ, List.set_cons_zero]))
      refine tree_some _ (by rfl) (by rfl) (by exact ⟨.slice none (fw).length 0, none, 0, rfl⟩) (fun W hE hF => ?_) (fun v Wa Wb ho hE => SlAt.below ho (Ext.below (show Ext [] Wa Wb from hE)) (Nat.le_refl _)) (fun v hv => ?_)
      · have hE' : Ext [] W8 W := hE
        refine does_enter 17 #[.slice o3 fw.length k3] (by go_simp; try rfl) ?_
        refine (list_any (fw) _ W (SlAt.below HX3.out hE'.below (Nat.le_refl _)) (by omega)).mono ?_
        rintro e W6 ⟨v, rfl, ho, hb⟩
        exact ⟨v, rfl, owns_slice ho, SlAt.of_owns ho, Ext.of_below hb⟩
      obtain ⟨o9, k9, rfl⟩ := hv
      simp only [Act.put, List.setIfInBounds_toArray, List.set_cons_succ, List.set_cons_zero]
      refine tree_val _ (by rfl) (by rfl) 16 #[hv h a9 b9 c9, .slice o9 fw.length k9] (fun W hW => by go_simp; try rfl) (fun W hE hF => ?_) ?_
      · have htr : IntsAt W (.slice o9 fw.length k9) fw := hF _ (List.Mem.head _) (by kernel_rfl)
        obtain ⟨a', b', c', he, h1, h2, h3⟩ := hF _ (List.Mem.tail _ (List.Mem.head _)) (by kernel_rfl)
        obtain ⟨rfl, rfl, rfl⟩ := hv_inj he
        have := ProveKeeps_any h _ _ _ _ fw W h1 h2 h3 htr
        rw [HPK.out] at this
        exact this
      simp only [Act.put, List.setIfInBounds_toArray, List.set_cons_succ, List.set_cons_zero]
      repeat (first | (refine tree_det (by rfl) _ (by rfl) (fun W hW => by go_simp; try rfl) ?_; simp only [Act.put, List.setIfInBounds_toArray, List.set_cons_succ, List.set_cons_zero]) | (refine tree_skip (by rfl) (by rfl) ?_; simp only [Act.put, List.setIfInBounds_toArray, List.set_cons_succ, List.set_cons_zero]))
      refine tree_val _ (by rfl) (by rfl) 20 _ (fun W hW => by go_simp; try rfl) (fun W hE hF => by exact by have := Shorter_any (turnedL h bs) fw _ _ W (SlAt.below HT8.out (Ext.below (show Ext [] W8 W from hE)) (Nat.le_refl _)) (SlAt.below HX3.out (Ext.below (show Ext [] W8 W from hE)) (Nat.le_refl _)); rw [HSH.out rfl] at this; exact this) ?_
      simp only [Act.put, List.setIfInBounds_toArray, List.set_cons_succ, List.set_cons_zero]
      repeat (first | (refine tree_det (by rfl) _ (by rfl) (fun W hW => by go_simp; try rfl) ?_; simp only [Act.put, List.setIfInBounds_toArray, List.set_cons_succ, List.set_cons_zero]) | (refine tree_skip (by rfl) (by rfl) ?_; simp only [Act.put, List.setIfInBounds_toArray, List.set_cons_succ, List.set_cons_zero]))
      refine tree_val _ (by rfl) (by rfl) 7 _ (fun W hW => by go_simp; try rfl) (fun W hE hF => by exact awake_any W) ?_
      simp only [Act.put, List.setIfInBounds_toArray, List.set_cons_succ, List.set_cons_zero]
      repeat (first | (refine tree_det (by rfl) _ (by rfl) (fun W hW => by go_simp; try rfl) ?_; simp only [Act.put, List.setIfInBounds_toArray, List.set_cons_succ, List.set_cons_zero]) | (refine tree_skip (by rfl) (by rfl) ?_; simp only [Act.put, List.setIfInBounds_toArray, List.set_cons_succ, List.set_cons_zero]))
      intro W9 hE hF
      have hb := Ext.below (show Ext [] W8 W9 from hE)
      (try clear hcr hsr)
      have HD9 := Lib.hid hb
      have HB9 := Lib.hid (bgo HB8.out hb)
      obtain ⟨hcr, _, hsr⟩ := cells_of_block ((HB9.out.block w.heap.size (by simp)).trans (heap_new0 w _))
      clear hb
      clear hE hF
      go_wp2_with fail
      go_returns
      exact ⟨by simp, bgo (bgoAlloc (Below.refl _ _) _) HB9.out⟩

end Go.Proofs.YtoibfafmnaooaaaGreat
