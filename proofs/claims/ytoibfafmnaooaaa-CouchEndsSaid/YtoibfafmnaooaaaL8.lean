/-
  The walk of CouchEnds: whatever the heap, the turnings by bits and the hour, it returns true; nothing that was there has turned.
-/
import Derived.WalkKit
import Derived.WalkLawsBesides
import Derived.WalkSpells
import Derived.Outline
import Derived.Handy
import Derived.KernelRfl
import Derived.Lib.Hide
import Derived.Test.YtoibfafmnaooaaaSE
namespace Go.Proofs.Ytoibfafmnaooaaa
open Go.RowKit Go.RG Go.SL Go.Shelf Cou
set_option maxHeartbeats 400000
set_option maxRecDepth 10000

set_option maxHeartbeats 4000000 in
theorem CouchEnds_any (h : HeapD) (wv tv xv' : Value) (bs hr : Nat) (w : World) (hw : PairsAt w wv h.wet) (ht : IntsAt w tv h.turns) (hx : TriplesAt w xv' h.readings) (hbs : (bs : Int) ≤ 65535) (hhr : (hr : Int) ≤ 255) :
    Calls Try.prog 5 #[hv h wv tv xv', .int .u16 bs, .int .u8 hr] w (PV (.bool true) w) := by
  obtain ⟨ow, cw, rfl⟩ := hw.open
  obtain ⟨ot, ct, rfl⟩ := ht.open
  obtain ⟨ox, cx, rfl⟩ := hx.open
  have HW := Lib.hid hw
  have HT := Lib.hid ht
  have HX := Lib.hid hx
  clear hw ht hx
  have HB0 := Lib.hid (Below.refl (w.alloc (.cells #[.int .i64 h.last, .int .i64 h.size, .int .i64 h.cool, .int .i64 h.die, .int .i64 h.burn, .int .i64 h.start.1, .int .i64 h.start.2, .slice ow h.wet.length cw, .slice ot h.turns.length ct, .slice ox h.readings.length cx] 28)).heap.size (w.alloc (.cells #[.int .i64 h.last, .int .i64 h.size, .int .i64 h.cool, .int .i64 h.die, .int .i64 h.burn, .int .i64 h.start.1, .int .i64 h.start.2, .slice ow h.wet.length cw, .slice ot h.turns.length ct, .slice ox h.readings.length cx] 28)))
  cases hry : readyB h
  case false =>
    have HR := Lib.hid hry
    clear hry
    go_enter Try.func5, Try.ntmps5
    go_wp2_with fail
    refine (ready_any h _ _ _ _ ((HW.out.alloc _).below HB0.out (Nat.le_refl _)) ((HT.out.alloc _).below HB0.out (Nat.le_refl _)) ((HX.out.alloc _).below HB0.out (Nat.le_refl _))).mono ?_
    rw [HR.out]
    rintro e W1 ⟨rfl, hb⟩
    (try clear hcr hsr)
    have HD1 := Lib.hid hb
    have HB1 := Lib.hid (bgo HB0.out hb)
    obtain ⟨hcr, _, hsr⟩ := cells_of_block ((HB1.out.block w.heap.size (by simp)).trans (heap_new0 w _))
    clear hb
    go_wp2_with fail
    refine (awake_any _).mono ?_
    rintro e W2 ⟨rfl, hb⟩
    (try clear hcr hsr)
    have HD2 := Lib.hid hb
    have HB2 := Lib.hid (bgo HB1.out hb)
    obtain ⟨hcr, _, hsr⟩ := cells_of_block ((HB2.out.block w.heap.size (by simp)).trans (heap_new0 w _))
    clear hb
    go_wp2_with fail
    go_returns
    exact ⟨by simp, bgo (bgoAlloc (Below.refl _ _) _) HB2.out⟩
  obtain ⟨hS, hf0, _, hl12⟩ := ready_sound hry
  have hw10 : h.wet.length ≤ 10 := by have := hS.wetLen; have := hS.last9; omega
  have hx5 := hS.rdgs
  have hl0 := hS.last0
  have hl9 := hS.last9
  have HR := Lib.hid hry
  have HS := Lib.hid hS
  have htu := turned_turns (h := h) hl0 bs
  have hTL : (turnedL h bs).length ≤ 10 := by
    have := ((turns_inc hl0 _).1 htu).len
    omega
  obtain ⟨K, hK⟩ : ∃ K : Nat, (hr : Int) % (h.last + 1) = K := Int.eq_ofNat_of_zero_le (Int.emod_nonneg _ (by omega))
  have hKl : (K : Int) ≤ h.last := by have := Int.emod_lt_of_pos (hr : Int) (show 0 < h.last + 1 by omega); omega
  have hnz : ¬ h.last + 1 = 0 := by omega
  cases hte : (truthsL h []).isEmpty
  case true =>
    have ha : askErr h (turnedL h bs) = 11 := by rw [ask_turns hS htu, hte]; rfl
    have HAB := Lib.hid (ask_bad ha (by decide))
    have hnil : (truthsR h).length = 0 := by
      rw [List.length_eq_zero_iff, List.eq_nil_iff_forall_not_mem]
      intro t hm
      have := (truthsR_mem hS t).1 hm
      rw [List.isEmpty_iff.1 hte] at this
      cases this
    clear hry hS hf0 htu ha hte
    go_enter Try.func5, Try.ntmps5
    go_wp2_with fail
    refine (ready_any h _ _ _ _ ((HW.out.alloc _).below HB0.out (Nat.le_refl _)) ((HT.out.alloc _).below HB0.out (Nat.le_refl _)) ((HX.out.alloc _).below HB0.out (Nat.le_refl _))).mono ?_
    rw [HR.out]
    rintro e W1 ⟨rfl, hb⟩
    (try clear hcr hsr)
    have HD1 := Lib.hid hb
    have HB1 := Lib.hid (bgo HB0.out hb)
    obtain ⟨hcr, _, hsr⟩ := cells_of_block ((HB1.out.block w.heap.size (by simp)).trans (heap_new0 w _))
    clear hb
    go_wp2_with fail
    refine wp_region_rg 11 [] none [(2, ⟨fun _ v => ∃ o c, v = .slice o (turnedL h bs).length c, fun _ v Wx => IntsAt Wx v (turnedL h bs)⟩)] (by kernel_rfl) (by kernel_rfl) ?_
    simp only [List.take_succ_cons, List.take_zero, List.drop_succ_cons, List.drop_zero]
    repeat (first | (refine tree_det (by rfl) _ (by rfl) (fun W hW => by go_simp; (try simp (disch := omega) only [IntWalk.i64_in, Int.tdiv_eq_ediv_of_nonneg, Int.tmod_eq_emod_of_nonneg]); try rfl) ?_; simp only [Act.put, List.setIfInBounds_toArray, List.set_cons_succ, List.set_cons_zero]) | (refine tree_skip (by rfl) (by rfl) ?_; simp only [Act.put, List.setIfInBounds_toArray, List.set_cons_succ, List.set_cons_zero]))
    refine tree_some _ (by rfl) (by rfl) (by exact ⟨.slice none (turnedL h bs).length 0, none, 0, rfl⟩) (fun W hE hF => ?_) (fun v Wa Wb ho hE => ?_) (fun v hv => ?_)
    · refine does_enter 34 #[hv h (.slice ow h.wet.length cw) (.slice ot h.turns.length ct) (.slice ox h.readings.length cx), .int .u16 bs] (by go_simp; try rfl) ?_
      refine (turned_any h _ _ _ bs W hl0 hl9 hbs).mono ?_
      rintro e W' ⟨v, rfl, h1, hb⟩
      exact ⟨_, rfl, h1.open, h1, Ext.of_below hb⟩
    · exact SlAt.below ho (Ext.below (show Ext [] Wa Wb from hE)) (Nat.le_refl _)
    obtain ⟨o2, k2, rfl⟩ := hv
    simp only [Act.put, List.setIfInBounds_toArray, List.set_cons_succ, List.set_cons_zero]
    repeat (first | (refine tree_det (by rfl) _ (by rfl) (fun W hW => by go_simp; (try simp (disch := omega) only [IntWalk.i64_in, Int.tdiv_eq_ediv_of_nonneg, Int.tmod_eq_emod_of_nonneg]); try rfl) ?_; simp only [Act.put, List.setIfInBounds_toArray, List.set_cons_succ, List.set_cons_zero]) | (refine tree_skip (by rfl) (by rfl) ?_; simp only [Act.put, List.setIfInBounds_toArray, List.set_cons_succ, List.set_cons_zero]))
    intro W2 hE hF
    have hv2 : IntsAt W2 (.slice o2 (turnedL h bs).length k2) (turnedL h bs) := hF _ (List.Mem.head _)
    have HV2 := Lib.hid hv2
    have hb := Ext.below (show Ext [] W1 W2 from hE)
    clear hE hF hv2
    (try clear hcr hsr)
    have HD2 := Lib.hid hb
    have HB2 := Lib.hid (bgo HB1.out hb)
    obtain ⟨hcr, _, hsr⟩ := cells_of_block ((HB2.out.block w.heap.size (by simp)).trans (heap_new0 w _))
    clear hb
    rw [hK]
    go_wp2_with fail
    refine (Heap_any h _ _ _ _ ((HW.out.alloc _).below HB2.out (Nat.le_refl _)) ((HT.out.alloc _).below HB2.out (Nat.le_refl _)) ((HX.out.alloc _).below HB2.out (Nat.le_refl _)) (by omega) (by omega) (by omega)).mono ?_
    rintro e W3 ⟨a3, b3, c3, rfl, h1, h2, h3, hb⟩
    (try clear hcr hsr)
    have HD3 := Lib.hid hb
    have HB3 := Lib.hid (bgo HB2.out hb)
    obtain ⟨hcr, _, hsr⟩ := cells_of_block ((HB3.out.block w.heap.size (by simp)).trans (heap_new0 w _))
    clear hb
    have HH3 := Lib.hid (And.intro h1 (And.intro h2 h3))
    clear h1 h2 h3
    go_wp2_with fail
    refine (list_any (turnedL h bs) _ _ (HV2.out.below HD3.out (Nat.le_refl _)) (by omega)).mono ?_
    rintro e W4 ⟨v, rfl, ho, hb⟩
    obtain ⟨o4, c4, rfl⟩ := owns_slice ho
    have HV4 := Lib.hid (SlAt.of_owns ho)
    clear ho
    (try clear hcr hsr)
    have HD4 := Lib.hid hb
    have HB4 := Lib.hid (bgo HB3.out hb)
    obtain ⟨hcr, _, hsr⟩ := cells_of_block ((HB4.out.block w.heap.size (by simp)).trans (heap_new0 w _))
    clear hb
    go_wp2_with fail
    refine (Bounds_any h _ _ _ _ (turnedL h bs) _ (HH3.out.1.below HD4.out (Nat.le_refl _)) (HH3.out.2.1.below HD4.out (Nat.le_refl _)) (HH3.out.2.2.below HD4.out (Nat.le_refl _)) HV4.out).mono ?_
    rintro e W5 ⟨v, rfl, hv, hb⟩
    rw [HAB.out.1]
    rw [HAB.out.2.1] at hv
    obtain ⟨o5, c5, rfl⟩ := SlAt.open hv
    have HV5 := Lib.hid hv
    clear hv
    (try clear hcr hsr)
    have HD5 := Lib.hid hb
    have HB5 := Lib.hid (bgo HB4.out hb)
    obtain ⟨hcr, _, hsr⟩ := cells_of_block ((HB5.out.block w.heap.size (by simp)).trans (heap_new0 w _))
    clear hb
    go_wp2_with fail
    refine (Truths_any h HS.out _ _ _ _ ((HW.out.alloc _).below HB5.out (Nat.le_refl _)) ((HT.out.alloc _).below HB5.out (Nat.le_refl _)) ((HX.out.alloc _).below HB5.out (Nat.le_refl _))).mono ?_
    rintro e W6 ⟨v, es, rfl, hv, hes, hi, hb⟩
    obtain ⟨oe, ce, rfl⟩ := TEAt.open hv
    have HV6 := Lib.hid (And.intro hv (And.intro hes hi))
    have hle6 := TEAt.len hv
    have hleq6 : es.length = (truthsR h).length := by rw [← hes]; simp
    clear hv hes hi
    (try clear hcr hsr)
    have HD6 := Lib.hid hb
    have HB6 := Lib.hid (bgo HB5.out hb)
    obtain ⟨hcr, _, hsr⟩ := cells_of_block ((HB6.out.block w.heap.size (by simp)).trans (heap_new0 w _))
    clear hb
    have hl0b : es.length = 0 := hleq6.trans hnil
    have hl0c : ((es.length : Int) == 0) = true := by simp [hl0b]
    clear hl0b
    go_wp2_with fail
    refine (awake_any _).mono ?_
    rintro e W7 ⟨rfl, hb⟩
    (try clear hcr hsr)
    have HD7 := Lib.hid hb
    have HB7 := Lib.hid (bgo HB6.out hb)
    obtain ⟨hcr, _, hsr⟩ := cells_of_block ((HB7.out.block w.heap.size (by simp)).trans (heap_new0 w _))
    clear hb
    go_wp2_with fail
    go_returns
    exact ⟨by simp, bgo (bgoAlloc (Below.refl _ _) _) HB7.out⟩
  have ha : askErr h (turnedL h bs) = 0 := by rw [ask_turns hS htu, hte]; rfl
  obtain ⟨hbl, hba⟩ := bounds_eq ha hte
  obtain ⟨hba1, hba2⟩ := hba K (by omega)
  have hne : truthsR h ≠ [] := fun e => by
    cases hl : truthsL h [] with
    | nil => rw [hl] at hte; cases hte
    | cons a l =>
      have := (truthsR_mem hS a).2 (by rw [hl]; exact List.mem_cons_self)
      rw [e] at this
      cases this
  obtain ⟨he1, he2⟩ := (bndR_all hS (turns := turnedL h bs) (i := K) (by omega)).2 hne
  obtain ⟨B, hB⟩ : ∃ B, boundsOut h (turnedL h bs) = B := ⟨_, rfl⟩
  have HAB := Lib.hid (And.intro ha hB)
  rw [hB] at hbl hba1
  obtain ⟨lo, hlo⟩ : ∃ lo, (bndR h (turnedL h bs) (truthsR h) K).1 = lo := ⟨_, rfl⟩
  obtain ⟨hi, hhi⟩ : ∃ hi, (bndR h (turnedL h bs) (truthsR h) K).2 = hi := ⟨_, rfl⟩
  rw [hlo] at he1
  rw [hhi] at he2
  have HEN := Lib.hid (And.intro he1 he2)
  have hKB : K < B.length := by omega
  have HBK : Hid (B[K] = (lo, hi)) := Lib.hid (by
    rw [← hlo, ← hhi, ← getD_lt (d := (0, 0)) hKB, hba1])
  have hblI : ((B.length : Int) != h.last + 1) = false := by rw [show (B.length : Int) = h.last + 1 from by omega]; simp
  have HOKT : Hid (∀ t ∈ truthsR h, HeatOk h t ∧ (h.last + 1).toNat ≤ t.2.length) := Lib.hid (fun t hm => by
    obtain ⟨j, _, e, _⟩ := (truthsTo_mem h t _).1 hm
    exact ⟨by rw [← e]; exact heatOk_of hS (nthT_listed hS _), truth_len hS ((truthsR_mem hS t).1 hm)⟩)
  have hBl10 : B.length ≤ 10 := by omega
  clear hry hS hf0 htu ha hte hbl hba hba1 hba2 hne he1 he2 hB hlo hhi
  go_enter Try.func5, Try.ntmps5
  go_wp2_with fail
  refine (ready_any h _ _ _ _ ((HW.out.alloc _).below HB0.out (Nat.le_refl _)) ((HT.out.alloc _).below HB0.out (Nat.le_refl _)) ((HX.out.alloc _).below HB0.out (Nat.le_refl _))).mono ?_
  rw [HR.out]
  rintro e W1 ⟨rfl, hb⟩
  (try clear hcr hsr)
  have HD1 := Lib.hid hb
  have HB1 := Lib.hid (bgo HB0.out hb)
  obtain ⟨hcr, _, hsr⟩ := cells_of_block ((HB1.out.block w.heap.size (by simp)).trans (heap_new0 w _))
  clear hb
  go_wp2_with fail
  refine wp_region_rg 11 [] none [(2, ⟨fun _ v => ∃ o c, v = .slice o (turnedL h bs).length c, fun _ v Wx => IntsAt Wx v (turnedL h bs)⟩)] (by kernel_rfl) (by kernel_rfl) ?_
  simp only [List.take_succ_cons, List.take_zero, List.drop_succ_cons, List.drop_zero]
  repeat (first | (refine tree_det (by rfl) _ (by rfl) (fun W hW => by go_simp; (try simp (disch := omega) only [IntWalk.i64_in, Int.tdiv_eq_ediv_of_nonneg, Int.tmod_eq_emod_of_nonneg]); try rfl) ?_; simp only [Act.put, List.setIfInBounds_toArray, List.set_cons_succ, List.set_cons_zero]) | (refine tree_skip (by rfl) (by rfl) ?_; simp only [Act.put, List.setIfInBounds_toArray, List.set_cons_succ, List.set_cons_zero]))
  refine tree_some _ (by rfl) (by rfl) (by exact ⟨.slice none (turnedL h bs).length 0, none, 0, rfl⟩) (fun W hE hF => ?_) (fun v Wa Wb ho hE => ?_) (fun v hv => ?_)
  · refine does_enter 34 #[hv h (.slice ow h.wet.length cw) (.slice ot h.turns.length ct) (.slice ox h.readings.length cx), .int .u16 bs] (by go_simp; try rfl) ?_
    refine (turned_any h _ _ _ bs W hl0 hl9 hbs).mono ?_
    rintro e W' ⟨v, rfl, h1, hb⟩
    exact ⟨_, rfl, h1.open, h1, Ext.of_below hb⟩
  · exact SlAt.below ho (Ext.below (show Ext [] Wa Wb from hE)) (Nat.le_refl _)
  obtain ⟨o2, k2, rfl⟩ := hv
  simp only [Act.put, List.setIfInBounds_toArray, List.set_cons_succ, List.set_cons_zero]
  repeat (first | (refine tree_det (by rfl) _ (by rfl) (fun W hW => by go_simp; (try simp (disch := omega) only [IntWalk.i64_in, Int.tdiv_eq_ediv_of_nonneg, Int.tmod_eq_emod_of_nonneg]); try rfl) ?_; simp only [Act.put, List.setIfInBounds_toArray, List.set_cons_succ, List.set_cons_zero]) | (refine tree_skip (by rfl) (by rfl) ?_; simp only [Act.put, List.setIfInBounds_toArray, List.set_cons_succ, List.set_cons_zero]))
  intro W2 hE hF
  have hv2 : IntsAt W2 (.slice o2 (turnedL h bs).length k2) (turnedL h bs) := hF _ (List.Mem.head _)
  have HV2 := Lib.hid hv2
  have hb := Ext.below (show Ext [] W1 W2 from hE)
  clear hE hF hv2
  (try clear hcr hsr)
  have HD2 := Lib.hid hb
  have HB2 := Lib.hid (bgo HB1.out hb)
  obtain ⟨hcr, _, hsr⟩ := cells_of_block ((HB2.out.block w.heap.size (by simp)).trans (heap_new0 w _))
  clear hb
  rw [hK]
  go_wp2_with fail
  refine (Heap_any h _ _ _ _ ((HW.out.alloc _).below HB2.out (Nat.le_refl _)) ((HT.out.alloc _).below HB2.out (Nat.le_refl _)) ((HX.out.alloc _).below HB2.out (Nat.le_refl _)) (by omega) (by omega) (by omega)).mono ?_
  rintro e W3 ⟨a3, b3, c3, rfl, h1, h2, h3, hb⟩
  (try clear hcr hsr)
  have HD3 := Lib.hid hb
  have HB3 := Lib.hid (bgo HB2.out hb)
  obtain ⟨hcr, _, hsr⟩ := cells_of_block ((HB3.out.block w.heap.size (by simp)).trans (heap_new0 w _))
  clear hb
  have HH3 := Lib.hid (And.intro h1 (And.intro h2 h3))
  clear h1 h2 h3
  go_wp2_with fail
  refine (list_any (turnedL h bs) _ _ (HV2.out.below HD3.out (Nat.le_refl _)) (by omega)).mono ?_
  rintro e W4 ⟨v, rfl, ho, hb⟩
  obtain ⟨o4, c4, rfl⟩ := owns_slice ho
  have HV4 := Lib.hid (SlAt.of_owns ho)
  clear ho
  (try clear hcr hsr)
  have HD4 := Lib.hid hb
  have HB4 := Lib.hid (bgo HB3.out hb)
  obtain ⟨hcr, _, hsr⟩ := cells_of_block ((HB4.out.block w.heap.size (by simp)).trans (heap_new0 w _))
  clear hb
  go_wp2_with fail
  refine (Bounds_any h _ _ _ _ (turnedL h bs) _ (HH3.out.1.below HD4.out (Nat.le_refl _)) (HH3.out.2.1.below HD4.out (Nat.le_refl _)) (HH3.out.2.2.below HD4.out (Nat.le_refl _)) HV4.out).mono ?_
  rintro e W5 ⟨v, rfl, hv, hb⟩
  rw [HAB.out.1]
  rw [HAB.out.2] at hv
  obtain ⟨o5, c5, rfl⟩ := SlAt.open hv
  have HV5 := Lib.hid hv
  clear hv
  (try clear hcr hsr)
  have HD5 := Lib.hid hb
  have HB5 := Lib.hid (bgo HB4.out hb)
  obtain ⟨hcr, _, hsr⟩ := cells_of_block ((HB5.out.block w.heap.size (by simp)).trans (heap_new0 w _))
  clear hb
  go_wp2_with fail
  refine (Truths_any h HS.out _ _ _ _ ((HW.out.alloc _).below HB5.out (Nat.le_refl _)) ((HT.out.alloc _).below HB5.out (Nat.le_refl _)) ((HX.out.alloc _).below HB5.out (Nat.le_refl _))).mono ?_
  rintro e W6 ⟨v, es, rfl, hv, hes, hi, hb⟩
  obtain ⟨oe, ce, rfl⟩ := TEAt.open hv
  have HV6 := Lib.hid (And.intro hv (And.intro hes hi))
  have hle6 := TEAt.len hv
  have hleq6 : es.length = (truthsR h).length := by rw [← hes]; simp
  clear hv hes hi
  (try clear hcr hsr)
  have HD6 := Lib.hid hb
  have HB6 := Lib.hid (bgo HB5.out hb)
  obtain ⟨hcr, _, hsr⟩ := cells_of_block ((HB6.out.block w.heap.size (by simp)).trans (heap_new0 w _))
  clear hb
  have HB5 : Hid (PairsAt W6 (.slice o5 B.length c5) B) := Lib.hid (SlAt.below HV5.out HD6.out (Nat.le_refl _))
  have HT6 : Hid (IntsAt W6 (.slice o2 (turnedL h bs).length k2) (turnedL h bs)) := Lib.hid (SlAt.below (SlAt.below (SlAt.below (SlAt.below HV2.out HD3.out (Nat.le_refl _)) HD4.out (Nat.le_refl _)) HD5.out (Nat.le_refl _)) HD6.out (Nat.le_refl _))
  clear hleq6
  go_wp2_with fail
  obtain ⟨A, hA⟩ : ∃ A : Nat → Bool, (fun k => (es.take k).any fun e => heatI h (turnedL h bs) K (teP e) == lo) = A := ⟨_, rfl⟩
  obtain ⟨C, hC⟩ : ∃ C : Nat → Bool, (fun k => (es.take k).any fun e => heatI h (turnedL h bs) K (teP e) == hi) = C := ⟨_, rfl⟩
  have HA0 : Hid (A 0 = false ∧ C 0 = false) := Lib.hid (by rw [← hA, ← hC]; exact ⟨rfl, rfl⟩)
  have HAS : Hid (∀ k (hk : k < es.length), A (k + 1) = (A k || heatI h (turnedL h bs) K (teP es[k]) == lo) ∧ C (k + 1) = (C k || heatI h (turnedL h bs) K (teP es[k]) == hi)) := Lib.hid (fun k hk => by
    rw [← hA, ← hC]
    simp only
    rw [List.take_succ_eq_append_getElem hk, List.any_append, List.any_append]
    simp)
  have HAL : Hid (A es.length = true ∧ C es.length = true) := Lib.hid (by
    rw [← hA, ← hC]
    simp only [List.take_length]
    have hm := HV6.out.2.1
    refine ⟨?_, ?_⟩
    · obtain ⟨t, ht, e⟩ := HEN.out.1
      rw [← hm] at ht
      obtain ⟨x, hx, rfl⟩ := List.mem_map.1 ht
      exact List.any_eq_true.2 ⟨x, hx, by rw [← e]; simp⟩
    · obtain ⟨t, ht, e⟩ := HEN.out.2
      rw [← hm] at ht
      obtain ⟨x, hx, rfl⟩ := List.mem_map.1 ht
      exact List.any_eq_true.2 ⟨x, hx, by rw [← e]; simp⟩)
  clear hA hC HEN
  go_loopw [12, 13, 14] (fun a c u wr => ∃ k : Nat, k ≤ es.length ∧ a = .bool (A k) ∧ c = .bool (C k) ∧ u = .int .i64 k ∧ Below W6.heap.size W6 wr) (fun _ _ u _ => es.length - (intOf u).toNat)
  case atStart => exact ⟨0, Nat.zero_le _, by rw [HA0.out.1], by rw [HA0.out.2], rfl, Below.refl _ _⟩
  case round =>
    obtain ⟨k, hk, rfl, rfl, rfl, hB⟩ := hrel
    have HB7 := Lib.hid (bgo HB6.out hB)
    have HD7 := Lib.hid hB
    clear hB hcr hsr
    obtain ⟨hcr, _, hsr⟩ := cells_of_block ((HB7.out.block w.heap.size (by simp)).trans (heap_new0 w _))
    by_cases hlt : k < es.length
    case neg =>
      obtain rfl : k = es.length := by omega
      rw [HAL.out.1, HAL.out.2]
      go_wp2_with fail
      refine (awake_any _).mono ?_
      rintro e W8 ⟨rfl, hb⟩
      (try clear hcr hsr)
      have HD8 := Lib.hid hb
      have HB8 := Lib.hid (bgo HB7.out hb)
      obtain ⟨hcr, _, hsr⟩ := cells_of_block ((HB8.out.block w.heap.size (by simp)).trans (heap_new0 w _))
      clear hb
      go_wp2_with fail
      go_returns
      exact ⟨by simp, bgo (bgoAlloc (Below.refl _ _) _) HB8.out⟩
    have hltI : (k : Int) < es.length := by omega
    obtain ⟨b, off, rfl, hb, d1, d2⟩ := TEAt.cell (SlAt.below HV6.out.1 HD7.out (Nat.le_refl _)) hlt
    obtain ⟨b5, off5, hb5, hb5s, f1, f2⟩ := PairsAt.cell (SlAt.below HB5.out HD7.out (Nat.le_refl _)) hKB
    rw [HBK.out] at f1 f2
    subst hb5
    have HNX := Lib.hid (HAS.out k hlt)
    have hee := HV6.out.2.2 _ (List.getElem_mem hlt)
    have hoo := HOKT.out (teP es[k]) (by rw [← HV6.out.2.1]; exact List.mem_map.2 ⟨_, List.getElem_mem hlt, rfl⟩)
    generalize es[k] = e at *
    obtain ⟨start, ve, wet⟩ := e
    obtain ⟨o3, c3, rfl⟩ := SlAt.open (show IntsAt W6 ve wet from hee)
    have how : (h.last + 1).toNat ≤ wet.length := hoo.2
    have HH := Lib.hid (fun (W : World) (hW : Below W6.heap.size W6 W) => Heat_at h (start, wet) hoo.1 ow ot ox h.wet.length cw h.turns.length ct h.readings.length cx (.slice o3 wet.length c3) (.slice o2 (turnedL h bs).length k2) (turnedL h bs) K W (by show K < wet.length; omega) (by omega) (SlAt.below (show IntsAt W6 (.slice o3 wet.length c3) wet from hee) hW (Nat.le_refl _)) (HT6.out.below hW (Nat.le_refl _)))
    have HN2 : Hid (A (k + 1) = (A k || heatAt h.size h.cool (turnedL h bs) start wet (K + 1) == lo) ∧ C (k + 1) = (C k || heatAt h.size h.cool (turnedL h bs) start wet (K + 1) == hi)) := HNX
    obtain ⟨x, hxx⟩ : ∃ x, heatAt h.size h.cool (turnedL h bs) start wet (K + 1) = x := ⟨_, rfl⟩
    rw [hxx] at HH HN2
    clear HNX hee hoo hxx
    obtain ⟨a, ha⟩ : ∃ a, A k = a := ⟨_, rfl⟩
    obtain ⟨c, hc⟩ : ∃ c, C k = c := ⟨_, rfl⟩
    rw [ha, hc] at HN2
    rw [ha, hc]
    clear ha hc
    cases a <;> cases c
    case false.false =>
      go_wp2_with fail
      refine wp_region_rg 9 [] none [(7, Spec.val (iv x))] (by kernel_rfl) (by kernel_rfl) ?_
      simp only [List.take_succ_cons, List.take_zero, List.drop_succ_cons, List.drop_zero]
      repeat (first | (refine tree_det (by rfl) _ (by rfl) (fun W hW => by go_simp; (try simp (disch := omega) only [IntWalk.i64_in]); try rfl) ?_; simp only [Act.put, List.setIfInBounds_toArray, List.set_cons_succ, List.set_cons_zero]) | (refine tree_skip (by rfl) (by rfl) ?_; simp only [Act.put, List.setIfInBounds_toArray, List.set_cons_succ, List.set_cons_zero]))
      refine tree_val _ (by rfl) (by rfl) 37 _ (fun W hW => by go_simp; try rfl) (fun W hE hF => by exact HH.out W (bgo HD7.out (Ext.below (show Ext [] wr W from hE)))) ?_
      simp only [Act.put, List.setIfInBounds_toArray, List.set_cons_succ, List.set_cons_zero]
      repeat (first | (refine tree_det (by rfl) _ (by rfl) (fun W hW => by go_simp; (try simp (disch := omega) only [IntWalk.i64_in]); try rfl) ?_; simp only [Act.put, List.setIfInBounds_toArray, List.set_cons_succ, List.set_cons_zero]) | (refine tree_skip (by rfl) (by rfl) ?_; simp only [Act.put, List.setIfInBounds_toArray, List.set_cons_succ, List.set_cons_zero]))
      intro W8 hE hF
      have hE' : Ext [] wr W8 := hE
      have hb8 := hE'.below
      have HD8 := Lib.hid hb8
      have HB8 := Lib.hid (bgo HB7.out hb8)
      have HCB := SlAt.below (SlAt.below HB5.out HD7.out (Nat.le_refl _)) hb8 (Nat.le_refl _)
      obtain ⟨b6, off6, hb6, hb6s, f3, f4⟩ := PairsAt.cell HCB hKB
      rw [HBK.out] at f3 f4
      cases hb6
      clear hE hF hE' hb8 HCB d1 d2 f1 f2 hcr hsr
      go_wp2_with fail
      refine wp_region_rg 22 [] none [] (by kernel_rfl) (by kernel_rfl) ?_
      simp only [List.take_succ_cons, List.take_zero, List.drop_succ_cons, List.drop_zero]
      repeat (first | (refine tree_det (by rfl) _ (by rfl) (fun W hW => by go_simp; (try simp (disch := omega) only [IntWalk.i64_in]); try rfl) ?_; simp only [Act.put, List.setIfInBounds_toArray, List.set_cons_succ, List.set_cons_zero]) | (refine tree_skip (by rfl) (by rfl) ?_; simp only [Act.put, List.setIfInBounds_toArray, List.set_cons_succ, List.set_cons_zero]))
      intro W9 hE hF
      have HE := Lib.hid (show Ext [] W8 W9 from hE)
      clear hE hF f3 f4
      go_wp2_with fail
      go_roundw
      case rel => exact ⟨k + 1, by omega, by rw [HN2.out.1]; simp, by rw [HN2.out.2]; simp, by go_num, bgo HD7.out (bgo HD8.out HE.out.below)⟩
      case measure => simp [intOf]; omega
    case false.true =>
      go_wp2_with fail
      refine wp_region_rg 9 [] none [(7, Spec.val (iv x))] (by kernel_rfl) (by kernel_rfl) ?_
      simp only [List.take_succ_cons, List.take_zero, List.drop_succ_cons, List.drop_zero]
      repeat (first | (refine tree_det (by rfl) _ (by rfl) (fun W hW => by go_simp; (try simp (disch := omega) only [IntWalk.i64_in]); try rfl) ?_; simp only [Act.put, List.setIfInBounds_toArray, List.set_cons_succ, List.set_cons_zero]) | (refine tree_skip (by rfl) (by rfl) ?_; simp only [Act.put, List.setIfInBounds_toArray, List.set_cons_succ, List.set_cons_zero]))
      refine tree_val _ (by rfl) (by rfl) 37 _ (fun W hW => by go_simp; try rfl) (fun W hE hF => by exact HH.out W (bgo HD7.out (Ext.below (show Ext [] wr W from hE)))) ?_
      simp only [Act.put, List.setIfInBounds_toArray, List.set_cons_succ, List.set_cons_zero]
      repeat (first | (refine tree_det (by rfl) _ (by rfl) (fun W hW => by go_simp; (try simp (disch := omega) only [IntWalk.i64_in]); try rfl) ?_; simp only [Act.put, List.setIfInBounds_toArray, List.set_cons_succ, List.set_cons_zero]) | (refine tree_skip (by rfl) (by rfl) ?_; simp only [Act.put, List.setIfInBounds_toArray, List.set_cons_succ, List.set_cons_zero]))
      intro W8 hE hF
      have hE' : Ext [] wr W8 := hE
      have hb8 := hE'.below
      have HD8 := Lib.hid hb8
      have HB8 := Lib.hid (bgo HB7.out hb8)
      have HCB := SlAt.below (SlAt.below HB5.out HD7.out (Nat.le_refl _)) hb8 (Nat.le_refl _)
      obtain ⟨b6, off6, hb6, hb6s, f3, f4⟩ := PairsAt.cell HCB hKB
      rw [HBK.out] at f3 f4
      cases hb6
      clear hE hF hE' hb8 HCB d1 d2 f1 f2 hcr hsr
      go_wp2_with fail
      refine wp_region_rg 22 [] none [] (by kernel_rfl) (by kernel_rfl) ?_
      simp only [List.take_succ_cons, List.take_zero, List.drop_succ_cons, List.drop_zero]
      repeat (first | (refine tree_det (by rfl) _ (by rfl) (fun W hW => by go_simp; (try simp (disch := omega) only [IntWalk.i64_in]); try rfl) ?_; simp only [Act.put, List.setIfInBounds_toArray, List.set_cons_succ, List.set_cons_zero]) | (refine tree_skip (by rfl) (by rfl) ?_; simp only [Act.put, List.setIfInBounds_toArray, List.set_cons_succ, List.set_cons_zero]))
      intro W9 hE hF
      have HE := Lib.hid (show Ext [] W8 W9 from hE)
      clear hE hF f3 f4
      go_wp2_with fail
      go_roundw
      case rel => exact ⟨k + 1, by omega, by rw [HN2.out.1]; simp, by rw [HN2.out.2]; simp, by go_num, bgo HD7.out (bgo HD8.out HE.out.below)⟩
      case measure => simp [intOf]; omega
    case true.false =>
      go_wp2_with fail
      refine wp_region_rg 9 [] none [(7, Spec.val (iv x))] (by kernel_rfl) (by kernel_rfl) ?_
      simp only [List.take_succ_cons, List.take_zero, List.drop_succ_cons, List.drop_zero]
      repeat (first | (refine tree_det (by rfl) _ (by rfl) (fun W hW => by go_simp; (try simp (disch := omega) only [IntWalk.i64_in]); try rfl) ?_; simp only [Act.put, List.setIfInBounds_toArray, List.set_cons_succ, List.set_cons_zero]) | (refine tree_skip (by rfl) (by rfl) ?_; simp only [Act.put, List.setIfInBounds_toArray, List.set_cons_succ, List.set_cons_zero]))
      refine tree_val _ (by rfl) (by rfl) 37 _ (fun W hW => by go_simp; try rfl) (fun W hE hF => by exact HH.out W (bgo HD7.out (Ext.below (show Ext [] wr W from hE)))) ?_
      simp only [Act.put, List.setIfInBounds_toArray, List.set_cons_succ, List.set_cons_zero]
      repeat (first | (refine tree_det (by rfl) _ (by rfl) (fun W hW => by go_simp; (try simp (disch := omega) only [IntWalk.i64_in]); try rfl) ?_; simp only [Act.put, List.setIfInBounds_toArray, List.set_cons_succ, List.set_cons_zero]) | (refine tree_skip (by rfl) (by rfl) ?_; simp only [Act.put, List.setIfInBounds_toArray, List.set_cons_succ, List.set_cons_zero]))
      intro W8 hE hF
      have hE' : Ext [] wr W8 := hE
      have hb8 := hE'.below
      have HD8 := Lib.hid hb8
      have HB8 := Lib.hid (bgo HB7.out hb8)
      have HCB := SlAt.below (SlAt.below HB5.out HD7.out (Nat.le_refl _)) hb8 (Nat.le_refl _)
      obtain ⟨b6, off6, hb6, hb6s, f3, f4⟩ := PairsAt.cell HCB hKB
      rw [HBK.out] at f3 f4
      cases hb6
      clear hE hF hE' hb8 HCB d1 d2 f1 f2 hcr hsr
      go_wp2_with fail
      refine wp_region_rg 22 [] none [] (by kernel_rfl) (by kernel_rfl) ?_
      simp only [List.take_succ_cons, List.take_zero, List.drop_succ_cons, List.drop_zero]
      repeat (first | (refine tree_det (by rfl) _ (by rfl) (fun W hW => by go_simp; (try simp (disch := omega) only [IntWalk.i64_in]); try rfl) ?_; simp only [Act.put, List.setIfInBounds_toArray, List.set_cons_succ, List.set_cons_zero]) | (refine tree_skip (by rfl) (by rfl) ?_; simp only [Act.put, List.setIfInBounds_toArray, List.set_cons_succ, List.set_cons_zero]))
      intro W9 hE hF
      have HE := Lib.hid (show Ext [] W8 W9 from hE)
      clear hE hF f3 f4
      go_wp2_with fail
      go_roundw
      case rel => exact ⟨k + 1, by omega, by rw [HN2.out.1]; simp, by rw [HN2.out.2]; simp, by go_num, bgo HD7.out (bgo HD8.out HE.out.below)⟩
      case measure => simp [intOf]; omega
    case true.true =>
      go_wp2_with fail
      refine wp_region_rg 9 [] none [(7, Spec.val (iv x))] (by kernel_rfl) (by kernel_rfl) ?_
      simp only [List.take_succ_cons, List.take_zero, List.drop_succ_cons, List.drop_zero]
      repeat (first | (refine tree_det (by rfl) _ (by rfl) (fun W hW => by go_simp; (try simp (disch := omega) only [IntWalk.i64_in]); try rfl) ?_; simp only [Act.put, List.setIfInBounds_toArray, List.set_cons_succ, List.set_cons_zero]) | (refine tree_skip (by rfl) (by rfl) ?_; simp only [Act.put, List.setIfInBounds_toArray, List.set_cons_succ, List.set_cons_zero]))
      refine tree_val _ (by rfl) (by rfl) 37 _ (fun W hW => by go_simp; try rfl) (fun W hE hF => by exact HH.out W (bgo HD7.out (Ext.below (show Ext [] wr W from hE)))) ?_
      simp only [Act.put, List.setIfInBounds_toArray, List.set_cons_succ, List.set_cons_zero]
      repeat (first | (refine tree_det (by rfl) _ (by rfl) (fun W hW => by go_simp; (try simp (disch := omega) only [IntWalk.i64_in]); try rfl) ?_; simp only [Act.put, List.setIfInBounds_toArray, List.set_cons_succ, List.set_cons_zero]) | (refine tree_skip (by rfl) (by rfl) ?_; simp only [Act.put, List.setIfInBounds_toArray, List.set_cons_succ, List.set_cons_zero]))
      intro W8 hE hF
      have hE' : Ext [] wr W8 := hE
      have hb8 := hE'.below
      have HD8 := Lib.hid hb8
      have HB8 := Lib.hid (bgo HB7.out hb8)
      have HCB := SlAt.below (SlAt.below HB5.out HD7.out (Nat.le_refl _)) hb8 (Nat.le_refl _)
      obtain ⟨b6, off6, hb6, hb6s, f3, f4⟩ := PairsAt.cell HCB hKB
      rw [HBK.out] at f3 f4
      cases hb6
      clear hE hF hE' hb8 HCB d1 d2 f1 f2 hcr hsr
      go_wp2_with fail
      refine wp_region_rg 22 [] none [] (by kernel_rfl) (by kernel_rfl) ?_
      simp only [List.take_succ_cons, List.take_zero, List.drop_succ_cons, List.drop_zero]
      repeat (first | (refine tree_det (by rfl) _ (by rfl) (fun W hW => by go_simp; (try simp (disch := omega) only [IntWalk.i64_in]); try rfl) ?_; simp only [Act.put, List.setIfInBounds_toArray, List.set_cons_succ, List.set_cons_zero]) | (refine tree_skip (by rfl) (by rfl) ?_; simp only [Act.put, List.setIfInBounds_toArray, List.set_cons_succ, List.set_cons_zero]))
      intro W9 hE hF
      have HE := Lib.hid (show Ext [] W8 W9 from hE)
      clear hE hF f3 f4
      go_wp2_with fail
      go_roundw
      case rel => exact ⟨k + 1, by omega, by rw [HN2.out.1]; simp, by rw [HN2.out.2]; simp, by go_num, bgo HD7.out (bgo HD8.out HE.out.below)⟩
      case measure => simp [intOf]; omega

end Go.Proofs.Ytoibfafmnaooaaa
