/-
  The walk of CouchFewest: whatever the heap, it returns true; nothing that was there has turned.
-/
import Derived.WalkKit
import Derived.WalkLawsBesides
import Derived.WalkSpells
import Derived.Outline
import Derived.Handy
import Derived.KernelRfl
import Derived.Lib.Hide
import Derived.Test.YtoibfafmnaooaaaGreatSZ
namespace Go.Proofs.YtoibfafmnaooaaaGreat
open Go.RowKit Go.RG Go.SL Go.Shelf Cou
set_option maxHeartbeats 400000
set_option maxRecDepth 10000

set_option maxHeartbeats 4000000 in
theorem CouchFewest_any (h : HeapD) (wv tv xv' : Value) (w : World) (hw : PairsAt w wv h.wet) (ht : IntsAt w tv h.turns) (hx : TriplesAt w xv' h.readings) :
    Calls Tryz.prog 3 #[hv h wv tv xv'] w (PV (.bool true) w) := by
  obtain ⟨ow, cw, rfl⟩ := hw.open
  obtain ⟨ot, ct, rfl⟩ := ht.open
  obtain ⟨ox, cx, rfl⟩ := hx.open
  have HW := Lib.hid hw
  have HT := Lib.hid ht
  have HX := Lib.hid hx
  clear hw ht hx
  have HB0 := Lib.hid (Below.refl (w.alloc (.cells #[.int .i64 h.last, .int .i64 h.size, .int .i64 h.cool, .int .i64 h.die, .int .i64 h.burn, .int .i64 h.start.1, .int .i64 h.start.2, .slice ow h.wet.length cw, .slice ot h.turns.length ct, .slice ox h.readings.length cx] 28)).heap.size (w.alloc (.cells #[.int .i64 h.last, .int .i64 h.size, .int .i64 h.cool, .int .i64 h.die, .int .i64 h.burn, .int .i64 h.start.1, .int .i64 h.start.2, .slice ow h.wet.length cw, .slice ot h.turns.length ct, .slice ox h.readings.length cx] 28)))
  cases hth : thinB h
  case false =>
    have HTH := Lib.hid hth
    clear hth
    go_enter Tryz.func3, Tryz.ntmps3
    go_wp2_with fail
    refine (Thin_any h _ _ _ _ ((HW.out.alloc _).below HB0.out (Nat.le_refl _)) ((HT.out.alloc _).below HB0.out (Nat.le_refl _)) ((HX.out.alloc _).below HB0.out (Nat.le_refl _))).mono ?_
    rw [HTH.out]
    rintro e W1 ⟨rfl, hb⟩
    (try clear hcr hsr)
    have HD1 := Lib.hid hb
    have HB1 := Lib.hid (bgo HB0.out hb)
    obtain ⟨hcr, _, hsr⟩ := cells_of_block ((HB1.out.block w.heap.size (by simp)).trans (heap_new0 w _))
    clear hb
    go_wp2_with fail
    refine (awake_any _).mono ?_
    rintro e W2 ⟨rfl, hb⟩
    (try clear hcr hsr)
    have HD2 := Lib.hid hb
    have HB2 := Lib.hid (bgo HB1.out hb)
    obtain ⟨hcr, _, hsr⟩ := cells_of_block ((HB2.out.block w.heap.size (by simp)).trans (heap_new0 w _))
    clear hb
    go_wp2_with fail
    go_returns
    exact ⟨by simp, bgo (bgoAlloc (Below.refl _ _) _) HB2.out⟩
  obtain ⟨hlw, hlt, hlx⟩ : h.wet.length ≤ 12 ∧ h.turns.length ≤ 12 ∧ h.readings.length ≤ 7 := by
    simp only [thinB, Bool.and_eq_true, decide_eq_true_eq] at hth
    exact ⟨hth.1, hth.2.1, hth.2.2.1⟩
  have HTH := Lib.hid hth
  clear hth
  obtain ⟨f, hf⟩ : ∃ f, fault h = f := ⟨_, rfl⟩
  obtain ⟨s, hs⟩ : ∃ s, sureE h = s := ⟨_, rfl⟩
  have HF := Lib.hid hf
  have HSU := Lib.hid hs
  by_cases hf0 : f = 0
  case neg =>
    have ha : askErr h [] = f := by unfold askErr; rw [if_pos (by rw [hf]; exact hf0), hf]
    have HFW : Hid (fewErr h = f ∧ fewL h = []) := Lib.hid ⟨by unfold fewErr; rw [if_pos (by rw [ha]; exact hf0), ha], by unfold fewL; rw [if_pos (by rw [ha]; exact hf0)]⟩
    obtain rfl : s = f := by rw [← hs]; unfold sureE; rw [if_pos (by rw [hf]; exact hf0), hf]
    have hfn : (s != 0) = true := by simpa using hf0
    have hfe : (s == 0) = false := by simpa using hf0
    clear hf hs ha hf0
    go_enter Tryz.func3, Tryz.ntmps3
    go_wp2_with fail
    refine (Thin_any h _ _ _ _ ((HW.out.alloc _).below HB0.out (Nat.le_refl _)) ((HT.out.alloc _).below HB0.out (Nat.le_refl _)) ((HX.out.alloc _).below HB0.out (Nat.le_refl _))).mono ?_
    rw [HTH.out]
    rintro e W1 ⟨rfl, hb⟩
    (try clear hcr hsr)
    have HD1 := Lib.hid hb
    have HB1 := Lib.hid (bgo HB0.out hb)
    obtain ⟨hcr, _, hsr⟩ := cells_of_block ((HB1.out.block w.heap.size (by simp)).trans (heap_new0 w _))
    clear hb
    go_wp2_with fail
    refine (Fault_any h _ _ _ _ ((HW.out.alloc _).below HB1.out (Nat.le_refl _)) ((HT.out.alloc _).below HB1.out (Nat.le_refl _)) ((HX.out.alloc _).below HB1.out (Nat.le_refl _))).mono ?_
    rw [HF.out]
    rintro e W2 ⟨rfl, hb⟩
    (try clear hcr hsr)
    have HD2 := Lib.hid hb
    have HB2 := Lib.hid (bgo HB1.out hb)
    obtain ⟨hcr, _, hsr⟩ := cells_of_block ((HB2.out.block w.heap.size (by simp)).trans (heap_new0 w _))
    clear hb
    go_wp2_with fail
    refine (Heap_any h _ _ _ _ ((HW.out.alloc _).below HB2.out (Nat.le_refl _)) ((HT.out.alloc _).below HB2.out (Nat.le_refl _)) ((HX.out.alloc _).below HB2.out (Nat.le_refl _)) (by omega) (by omega) (by omega)).mono ?_
    rintro e W3 ⟨a3, b3, c3, rfl, h1, h2, h3, hb⟩
    (try clear hcr hsr)
    have HD3 := Lib.hid hb
    have HB3 := Lib.hid (bgo HB2.out hb)
    obtain ⟨hcr, _, hsr⟩ := cells_of_block ((HB3.out.block w.heap.size (by simp)).trans (heap_new0 w _))
    clear hb
    have HH3 := Lib.hid (And.intro h1 (And.intro h2 h3))
    clear h1 h2 h3
    go_wp2_with fail
    refine (Fewest_any (h) _ _ _ _ HH3.out.1 HH3.out.2.1 HH3.out.2.2).mono ?_
    rintro e W4 ⟨v, rfl, hv, hb⟩
    rw [HFW.out.1]
    rw [HFW.out.2] at hv
    obtain ⟨o4, k4, rfl⟩ := hv.open
    have HV4 := Lib.hid hv
    clear hv
    (try clear hcr hsr)
    have HD4 := Lib.hid hb
    have HB4 := Lib.hid (bgo HB3.out hb)
    obtain ⟨hcr, _, hsr⟩ := cells_of_block ((HB4.out.block w.heap.size (by simp)).trans (heap_new0 w _))
    clear hb
    go_wp2_with fail
    refine (sure_any h _ _ _ _ ((HW.out.alloc _).below HB4.out (Nat.le_refl _)) ((HT.out.alloc _).below HB4.out (Nat.le_refl _)) ((HX.out.alloc _).below HB4.out (Nat.le_refl _))).mono ?_
    rintro e W5 ⟨v, es, rfl, hv, hes, hi, hb⟩
    rw [HSU.out]
    obtain ⟨oe, ce, rfl⟩ := TEAt.open hv
    have HV5 := Lib.hid (And.intro hv (And.intro hes hi))
    have hle5 := TEAt.len hv
    clear hv hes hi
    (try clear hcr hsr)
    have HD5 := Lib.hid hb
    have HB5 := Lib.hid (bgo HB4.out hb)
    obtain ⟨hcr, _, hsr⟩ := cells_of_block ((HB5.out.block w.heap.size (by simp)).trans (heap_new0 w _))
    clear hb
    go_wp2_with fail
    refine (awake_any _).mono ?_
    rintro e W6 ⟨rfl, hb⟩
    (try clear hcr hsr)
    have HD6 := Lib.hid hb
    have HB6 := Lib.hid (bgo HB5.out hb)
    obtain ⟨hcr, _, hsr⟩ := cells_of_block ((HB6.out.block w.heap.size (by simp)).trans (heap_new0 w _))
    clear hb
    go_wp2_with fail
    go_returns
    exact ⟨by simp, bgo (bgoAlloc (Below.refl _ _) _) HB6.out⟩
  subst hf0
  have hS := sound_of hf
  have HS := Lib.hid hS
  by_cases hl7 : (7 : Int) < h.last
  case pos =>
    clear hf hs hS
    go_enter Tryz.func3, Tryz.ntmps3
    go_wp2_with fail
    refine (Thin_any h _ _ _ _ ((HW.out.alloc _).below HB0.out (Nat.le_refl _)) ((HT.out.alloc _).below HB0.out (Nat.le_refl _)) ((HX.out.alloc _).below HB0.out (Nat.le_refl _))).mono ?_
    rw [HTH.out]
    rintro e W1 ⟨rfl, hb⟩
    (try clear hcr hsr)
    have HD1 := Lib.hid hb
    have HB1 := Lib.hid (bgo HB0.out hb)
    obtain ⟨hcr, _, hsr⟩ := cells_of_block ((HB1.out.block w.heap.size (by simp)).trans (heap_new0 w _))
    clear hb
    go_wp2_with fail
    refine (Fault_any h _ _ _ _ ((HW.out.alloc _).below HB1.out (Nat.le_refl _)) ((HT.out.alloc _).below HB1.out (Nat.le_refl _)) ((HX.out.alloc _).below HB1.out (Nat.le_refl _))).mono ?_
    rw [HF.out]
    rintro e W2 ⟨rfl, hb⟩
    (try clear hcr hsr)
    have HD2 := Lib.hid hb
    have HB2 := Lib.hid (bgo HB1.out hb)
    obtain ⟨hcr, _, hsr⟩ := cells_of_block ((HB2.out.block w.heap.size (by simp)).trans (heap_new0 w _))
    clear hb
    go_wp2_with fail
    refine (awake_any _).mono ?_
    rintro e W3 ⟨rfl, hb⟩
    (try clear hcr hsr)
    have HD3 := Lib.hid hb
    have HB3 := Lib.hid (bgo HB2.out hb)
    obtain ⟨hcr, _, hsr⟩ := cells_of_block ((HB3.out.block w.heap.size (by simp)).trans (heap_new0 w _))
    clear hb
    go_wp2_with fail
    go_returns
    exact ⟨by simp, bgo (bgoAlloc (Below.refl _ _) _) HB3.out⟩
  have haw := ask_of' hS
  cases hte : (truthsL h []).isEmpty
  case true =>
    have ha : askErr h [] = 11 := by rw [haw, hte]; rfl
    have HFW : Hid (fewErr h = 11 ∧ fewL h = []) := Lib.hid ⟨by unfold fewErr; rw [ha]; rfl, by unfold fewL; rw [ha]; rfl⟩
    have hnil : truthsR h = [] := by
      rw [List.eq_nil_iff_forall_not_mem]
      intro t hm
      have := (truthsR_mem hS t).1 hm
      rw [List.isEmpty_iff.1 hte] at this
      cases this
    obtain rfl : s = 11 := by rw [← hs]; unfold sureE; rw [if_neg (by rw [hf]; simp), hnil]; rfl
    clear hf hs ha haw hS hte hnil
    go_enter Tryz.func3, Tryz.ntmps3
    go_wp2_with fail
    refine (Thin_any h _ _ _ _ ((HW.out.alloc _).below HB0.out (Nat.le_refl _)) ((HT.out.alloc _).below HB0.out (Nat.le_refl _)) ((HX.out.alloc _).below HB0.out (Nat.le_refl _))).mono ?_
    rw [HTH.out]
    rintro e W1 ⟨rfl, hb⟩
    (try clear hcr hsr)
    have HD1 := Lib.hid hb
    have HB1 := Lib.hid (bgo HB0.out hb)
    obtain ⟨hcr, _, hsr⟩ := cells_of_block ((HB1.out.block w.heap.size (by simp)).trans (heap_new0 w _))
    clear hb
    go_wp2_with fail
    refine (Fault_any h _ _ _ _ ((HW.out.alloc _).below HB1.out (Nat.le_refl _)) ((HT.out.alloc _).below HB1.out (Nat.le_refl _)) ((HX.out.alloc _).below HB1.out (Nat.le_refl _))).mono ?_
    rw [HF.out]
    rintro e W2 ⟨rfl, hb⟩
    (try clear hcr hsr)
    have HD2 := Lib.hid hb
    have HB2 := Lib.hid (bgo HB1.out hb)
    obtain ⟨hcr, _, hsr⟩ := cells_of_block ((HB2.out.block w.heap.size (by simp)).trans (heap_new0 w _))
    clear hb
    go_wp2_with fail
    refine (Heap_any h _ _ _ _ ((HW.out.alloc _).below HB2.out (Nat.le_refl _)) ((HT.out.alloc _).below HB2.out (Nat.le_refl _)) ((HX.out.alloc _).below HB2.out (Nat.le_refl _)) (by omega) (by omega) (by omega)).mono ?_
    rintro e W3 ⟨a3, b3, c3, rfl, h1, h2, h3, hb⟩
    (try clear hcr hsr)
    have HD3 := Lib.hid hb
    have HB3 := Lib.hid (bgo HB2.out hb)
    obtain ⟨hcr, _, hsr⟩ := cells_of_block ((HB3.out.block w.heap.size (by simp)).trans (heap_new0 w _))
    clear hb
    have HH3 := Lib.hid (And.intro h1 (And.intro h2 h3))
    clear h1 h2 h3
    go_wp2_with fail
    refine (Fewest_any (h) _ _ _ _ HH3.out.1 HH3.out.2.1 HH3.out.2.2).mono ?_
    rintro e W4 ⟨v, rfl, hv, hb⟩
    rw [HFW.out.1]
    rw [HFW.out.2] at hv
    obtain ⟨o4, k4, rfl⟩ := hv.open
    have HV4 := Lib.hid hv
    clear hv
    (try clear hcr hsr)
    have HD4 := Lib.hid hb
    have HB4 := Lib.hid (bgo HB3.out hb)
    obtain ⟨hcr, _, hsr⟩ := cells_of_block ((HB4.out.block w.heap.size (by simp)).trans (heap_new0 w _))
    clear hb
    go_wp2_with fail
    refine (sure_any h _ _ _ _ ((HW.out.alloc _).below HB4.out (Nat.le_refl _)) ((HT.out.alloc _).below HB4.out (Nat.le_refl _)) ((HX.out.alloc _).below HB4.out (Nat.le_refl _))).mono ?_
    rintro e W5 ⟨v, es, rfl, hv, hes, hi, hb⟩
    rw [HSU.out]
    obtain ⟨oe, ce, rfl⟩ := TEAt.open hv
    have HV5 := Lib.hid (And.intro hv (And.intro hes hi))
    have hle5 := TEAt.len hv
    clear hv hes hi
    (try clear hcr hsr)
    have HD5 := Lib.hid hb
    have HB5 := Lib.hid (bgo HB4.out hb)
    obtain ⟨hcr, _, hsr⟩ := cells_of_block ((HB5.out.block w.heap.size (by simp)).trans (heap_new0 w _))
    clear hb
    go_wp2_with fail
    refine (awake_any _).mono ?_
    rintro e W6 ⟨rfl, hb⟩
    (try clear hcr hsr)
    have HD6 := Lib.hid hb
    have HB6 := Lib.hid (bgo HB5.out hb)
    obtain ⟨hcr, _, hsr⟩ := cells_of_block ((HB6.out.block w.heap.size (by simp)).trans (heap_new0 w _))
    clear hb
    go_wp2_with fail
    go_returns
    exact ⟨by simp, bgo (bgoAlloc (Below.refl _ _) _) HB6.out⟩
  have ha : askErr h [] = 0 := by rw [haw, hte]; rfl
  have hne : (truthsR h).length ≠ 0 := fun e => by
    have h1 := List.eq_nil_of_length_eq_zero e
    cases hl : truthsL h [] with
    | nil => rw [hl] at hte; cases hte
    | cons a l =>
      have := (truthsR_mem hS a).2 (by rw [hl]; exact List.mem_cons_self)
      rw [h1] at this
      cases this
  obtain rfl : s = 0 := by rw [← hs]; unfold sureE; rw [if_neg (by rw [hf]; simp), if_neg hne]
  have HSL : Hid (sureL h = truthsR h) := Lib.hid (by unfold sureL; rw [if_neg (by rw [hf]; simp)])
  have HOKT : Hid (∀ t ∈ truthsR h, HeatOk h t ∧ (h.last + 1).toNat ≤ t.2.length) := Lib.hid (fun t hm => by
    obtain ⟨j, _, e, _⟩ := (truthsTo_mem h t _).1 hm
    exact ⟨by rw [← e]; exact heatOk_of hS (nthT_listed hS _), truth_len hS ((truthsR_mem hS t).1 hm)⟩)
  have hl0 := hS.last0
  have hl9 := hS.last9
  obtain ⟨o, ho⟩ : ∃ o, fewS h = o := ⟨_, rfl⟩
  have HFR : Hid (fewR h (truthsR h) (2 ^ (h.last + 1).toNat) = o) := Lib.hid ((few_eq hS).trans ho)
  have HFW : Hid (fewErr h = (if o.isSome then 0 else 10) ∧ fewL h = o.getD []) := Lib.hid ⟨by unfold fewErr; rw [ha, ho]; rfl, by unfold fewL; rw [ha, ho]; rfl⟩
  clear hf hs ha haw hS hte hne ho
  cases o with
  | none =>
    replace HFW : Hid (fewErr h = 10 ∧ fewL h = []) := HFW
    go_enter Tryz.func3, Tryz.ntmps3
    go_wp2_with fail
    refine (Thin_any h _ _ _ _ ((HW.out.alloc _).below HB0.out (Nat.le_refl _)) ((HT.out.alloc _).below HB0.out (Nat.le_refl _)) ((HX.out.alloc _).below HB0.out (Nat.le_refl _))).mono ?_
    rw [HTH.out]
    rintro e W1 ⟨rfl, hb⟩
    (try clear hcr hsr)
    have HD1 := Lib.hid hb
    have HB1 := Lib.hid (bgo HB0.out hb)
    obtain ⟨hcr, _, hsr⟩ := cells_of_block ((HB1.out.block w.heap.size (by simp)).trans (heap_new0 w _))
    clear hb
    go_wp2_with fail
    refine (Fault_any h _ _ _ _ ((HW.out.alloc _).below HB1.out (Nat.le_refl _)) ((HT.out.alloc _).below HB1.out (Nat.le_refl _)) ((HX.out.alloc _).below HB1.out (Nat.le_refl _))).mono ?_
    rw [HF.out]
    rintro e W2 ⟨rfl, hb⟩
    (try clear hcr hsr)
    have HD2 := Lib.hid hb
    have HB2 := Lib.hid (bgo HB1.out hb)
    obtain ⟨hcr, _, hsr⟩ := cells_of_block ((HB2.out.block w.heap.size (by simp)).trans (heap_new0 w _))
    clear hb
    go_wp2_with fail
    refine (Heap_any h _ _ _ _ ((HW.out.alloc _).below HB2.out (Nat.le_refl _)) ((HT.out.alloc _).below HB2.out (Nat.le_refl _)) ((HX.out.alloc _).below HB2.out (Nat.le_refl _)) (by omega) (by omega) (by omega)).mono ?_
    rintro e W3 ⟨a3, b3, c3, rfl, h1, h2, h3, hb⟩
    (try clear hcr hsr)
    have HD3 := Lib.hid hb
    have HB3 := Lib.hid (bgo HB2.out hb)
    obtain ⟨hcr, _, hsr⟩ := cells_of_block ((HB3.out.block w.heap.size (by simp)).trans (heap_new0 w _))
    clear hb
    have HH3 := Lib.hid (And.intro h1 (And.intro h2 h3))
    clear h1 h2 h3
    go_wp2_with fail
    refine (Fewest_any (h) _ _ _ _ HH3.out.1 HH3.out.2.1 HH3.out.2.2).mono ?_
    rintro e W4 ⟨v, rfl, hv, hb⟩
    rw [HFW.out.1]
    rw [HFW.out.2] at hv
    obtain ⟨o4, k4, rfl⟩ := hv.open
    have HV4 := Lib.hid hv
    clear hv
    (try clear hcr hsr)
    have HD4 := Lib.hid hb
    have HB4 := Lib.hid (bgo HB3.out hb)
    obtain ⟨hcr, _, hsr⟩ := cells_of_block ((HB4.out.block w.heap.size (by simp)).trans (heap_new0 w _))
    clear hb
    go_wp2_with fail
    refine (sure_any h _ _ _ _ ((HW.out.alloc _).below HB4.out (Nat.le_refl _)) ((HT.out.alloc _).below HB4.out (Nat.le_refl _)) ((HX.out.alloc _).below HB4.out (Nat.le_refl _))).mono ?_
    rintro e W5 ⟨v, es, rfl, hv, hes, hi, hb⟩
    rw [HSU.out]
    obtain ⟨oe, ce, rfl⟩ := TEAt.open hv
    have HV5 := Lib.hid (And.intro hv (And.intro hes hi))
    have hle5 := TEAt.len hv
    clear hv hes hi
    (try clear hcr hsr)
    have HD5 := Lib.hid hb
    have HB5 := Lib.hid (bgo HB4.out hb)
    obtain ⟨hcr, _, hsr⟩ := cells_of_block ((HB5.out.block w.heap.size (by simp)).trans (heap_new0 w _))
    clear hb
    go_wp2_with fail
    refine (refFewest_any h _ _ _ _ es _ ((HW.out.alloc _).below HB5.out (Nat.le_refl _)) ((HT.out.alloc _).below HB5.out (Nat.le_refl _)) ((HX.out.alloc _).below HB5.out (Nat.le_refl _)) HV5.out.1 HV5.out.2.2 (fun e he => HOKT.out (teP e) (by rw [← HSL.out, ← HV5.out.2.1]; exact List.mem_map.2 ⟨e, he, rfl⟩)) hl0 hl9).mono ?_
    rw [HV5.out.2.1, HSL.out, HFR.out]
    rintro e W6 ⟨v, rfl, hv, hb⟩
    simp only [Option.isSome_none, Option.getD_none] at hv ⊢
    obtain ⟨o6, k6, rfl⟩ := hv.open
    clear hv
    (try clear hcr hsr)
    have HD6 := Lib.hid hb
    have HB6 := Lib.hid (bgo HB5.out hb)
    obtain ⟨hcr, _, hsr⟩ := cells_of_block ((HB6.out.block w.heap.size (by simp)).trans (heap_new0 w _))
    clear hb
    go_wp2_with fail
    refine (awake_any _).mono ?_
    rintro e W7 ⟨rfl, hb⟩
    (try clear hcr hsr)
    have HD7 := Lib.hid hb
    have HB7 := Lib.hid (bgo HB6.out hb)
    obtain ⟨hcr, _, hsr⟩ := cells_of_block ((HB7.out.block w.heap.size (by simp)).trans (heap_new0 w _))
    clear hb
    go_wp2_with fail
    go_returns
    exact ⟨by simp, bgo (bgoAlloc (Below.refl _ _) _) HB7.out⟩
  | some c =>
    replace HFW : Hid (fewErr h = 0 ∧ fewL h = c) := HFW
    have HLN : Hid ((c == c) = true) := Lib.hid (by simp)
    go_enter Tryz.func3, Tryz.ntmps3
    go_wp2_with fail
    refine (Thin_any h _ _ _ _ ((HW.out.alloc _).below HB0.out (Nat.le_refl _)) ((HT.out.alloc _).below HB0.out (Nat.le_refl _)) ((HX.out.alloc _).below HB0.out (Nat.le_refl _))).mono ?_
    rw [HTH.out]
    rintro e W1 ⟨rfl, hb⟩
    (try clear hcr hsr)
    have HD1 := Lib.hid hb
    have HB1 := Lib.hid (bgo HB0.out hb)
    obtain ⟨hcr, _, hsr⟩ := cells_of_block ((HB1.out.block w.heap.size (by simp)).trans (heap_new0 w _))
    clear hb
    go_wp2_with fail
    refine (Fault_any h _ _ _ _ ((HW.out.alloc _).below HB1.out (Nat.le_refl _)) ((HT.out.alloc _).below HB1.out (Nat.le_refl _)) ((HX.out.alloc _).below HB1.out (Nat.le_refl _))).mono ?_
    rw [HF.out]
    rintro e W2 ⟨rfl, hb⟩
    (try clear hcr hsr)
    have HD2 := Lib.hid hb
    have HB2 := Lib.hid (bgo HB1.out hb)
    obtain ⟨hcr, _, hsr⟩ := cells_of_block ((HB2.out.block w.heap.size (by simp)).trans (heap_new0 w _))
    clear hb
    go_wp2_with fail
    refine (Heap_any h _ _ _ _ ((HW.out.alloc _).below HB2.out (Nat.le_refl _)) ((HT.out.alloc _).below HB2.out (Nat.le_refl _)) ((HX.out.alloc _).below HB2.out (Nat.le_refl _)) (by omega) (by omega) (by omega)).mono ?_
    rintro e W3 ⟨a3, b3, c3, rfl, h1, h2, h3, hb⟩
    (try clear hcr hsr)
    have HD3 := Lib.hid hb
    have HB3 := Lib.hid (bgo HB2.out hb)
    obtain ⟨hcr, _, hsr⟩ := cells_of_block ((HB3.out.block w.heap.size (by simp)).trans (heap_new0 w _))
    clear hb
    have HH3 := Lib.hid (And.intro h1 (And.intro h2 h3))
    clear h1 h2 h3
    go_wp2_with fail
    refine (Fewest_any (h) _ _ _ _ HH3.out.1 HH3.out.2.1 HH3.out.2.2).mono ?_
    rintro e W4 ⟨v, rfl, hv, hb⟩
    rw [HFW.out.1]
    rw [HFW.out.2] at hv
    obtain ⟨o4, k4, rfl⟩ := hv.open
    have HV4 := Lib.hid hv
    clear hv
    (try clear hcr hsr)
    have HD4 := Lib.hid hb
    have HB4 := Lib.hid (bgo HB3.out hb)
    obtain ⟨hcr, _, hsr⟩ := cells_of_block ((HB4.out.block w.heap.size (by simp)).trans (heap_new0 w _))
    clear hb
    go_wp2_with fail
    refine (sure_any h _ _ _ _ ((HW.out.alloc _).below HB4.out (Nat.le_refl _)) ((HT.out.alloc _).below HB4.out (Nat.le_refl _)) ((HX.out.alloc _).below HB4.out (Nat.le_refl _))).mono ?_
    rintro e W5 ⟨v, es, rfl, hv, hes, hi, hb⟩
    rw [HSU.out]
    obtain ⟨oe, ce, rfl⟩ := TEAt.open hv
    have HV5 := Lib.hid (And.intro hv (And.intro hes hi))
    have hle5 := TEAt.len hv
    clear hv hes hi
    (try clear hcr hsr)
    have HD5 := Lib.hid hb
    have HB5 := Lib.hid (bgo HB4.out hb)
    obtain ⟨hcr, _, hsr⟩ := cells_of_block ((HB5.out.block w.heap.size (by simp)).trans (heap_new0 w _))
    clear hb
    go_wp2_with fail
    refine (refFewest_any h _ _ _ _ es _ ((HW.out.alloc _).below HB5.out (Nat.le_refl _)) ((HT.out.alloc _).below HB5.out (Nat.le_refl _)) ((HX.out.alloc _).below HB5.out (Nat.le_refl _)) HV5.out.1 HV5.out.2.2 (fun e he => HOKT.out (teP e) (by rw [← HSL.out, ← HV5.out.2.1]; exact List.mem_map.2 ⟨e, he, rfl⟩)) hl0 hl9).mono ?_
    rw [HV5.out.2.1, HSL.out, HFR.out]
    rintro e W6 ⟨v, rfl, hv, hb⟩
    simp only [Option.isSome_some, Option.getD_some] at hv ⊢
    obtain ⟨o6, k6, rfl⟩ := hv.open
    have HV6 := Lib.hid hv
    clear hv
    (try clear hcr hsr)
    have HD6 := Lib.hid hb
    have HB6 := Lib.hid (bgo HB5.out hb)
    obtain ⟨hcr, _, hsr⟩ := cells_of_block ((HB6.out.block w.heap.size (by simp)).trans (heap_new0 w _))
    clear hb
    go_wp2_with fail
    refine (ints_any c c _ _ _ ((HV4.out.below HD5.out (Nat.le_refl _)).below HD6.out (Nat.le_refl _)) HV6.out).mono ?_
    rw [HLN.out]
    rintro e W7 ⟨rfl, hb⟩
    (try clear hcr hsr)
    have HD7 := Lib.hid hb
    have HB7 := Lib.hid (bgo HB6.out hb)
    obtain ⟨hcr, _, hsr⟩ := cells_of_block ((HB7.out.block w.heap.size (by simp)).trans (heap_new0 w _))
    clear hb
    go_wp2_with fail
    refine (awake_any _).mono ?_
    rintro e W8 ⟨rfl, hb⟩
    (try clear hcr hsr)
    have HD8 := Lib.hid hb
    have HB8 := Lib.hid (bgo HB7.out hb)
    obtain ⟨hcr, _, hsr⟩ := cells_of_block ((HB8.out.block w.heap.size (by simp)).trans (heap_new0 w _))
    clear hb
    go_wp2_with fail
    go_returns
    exact ⟨by simp, bgo (bgoAlloc (Below.refl _ _) _) HB8.out⟩

end Go.Proofs.YtoibfafmnaooaaaGreat
