/-
  Contracts of package couch, fourth part: the error of a heap, whole.
-/
import Derived.WalkKit
import Derived.WalkLawsBesides
import Derived.WalkSpells
import Derived.Outline
import Derived.Handy
import Derived.KernelRfl
import Derived.Lib.Hide
import Derived.Test.YtoibfafmnaooaaaW4
namespace Go.Proofs.Ytoibfafmnaooaaa
open Go.RowKit Go.RG Go.SL Go.Shelf Cou
set_option maxHeartbeats 400000
set_option maxRecDepth 10000

theorem check_limit (h : HeapD) (wv tv xv' : Value) (w : World) (hx : TriplesAt w xv' h.readings) (hl : 9 < h.last ∨ 5 < (h.readings.length : Int)) :
    Calls Try.prog 56 #[hv h wv tv xv'] w (PV (iv 3) w) := by
  obtain ⟨ox, cx, rfl⟩ := hx.open
  clear hx
  by_cases h9 : 9 < h.last
  all_goals
    go_enter Try.func56, Try.ntmps56
    go_wp2
    go_returns
    exact ⟨by simp, (by repeat (first | exact Below.refl _ _ | assumption | refine bgo ?_ (by assumption) | refine bgoAlloc ?_ _ | refine bgoDrew ?_ | refine bgoSet ?_ (by simp; omega) _))⟩

theorem check_good (h : HeapD) (wv tv xv' : Value) (w : World) (hw : PairsAt w wv h.wet) (ht : IntsAt w tv h.turns) (hx : TriplesAt w xv' h.readings) (hl : h.last ≤ 9) (hr : (h.readings.length : Int) ≤ 5)
    (hn : numbersOk h = true) (h2 : ((h.wet.length : Int) == h.last + 1) = true) (h3 : isTurns h.last h.turns = true) (h4 : h.wet.all (okR · 20) = true) (h5 : h.readings.all (okRdg h.last) = true)
    (res : Int) (hres : Hid (res = if 2000 < prod (h.start :: h.wet) then 3 else 0)) :
    Calls Try.prog 56 #[hv h wv tv xv'] w (PV (iv res) w) := by
  have hlen : h.wet.length ≤ 10 := by have := of_decide_eq_true (p := (h.wet.length : Int) = h.last + 1) (by simpa using h2); omega
  have hok : ∀ r ∈ h.start :: h.wet, 0 ≤ r.1 ∧ r.1 ≤ r.2 ∧ r.2 ≤ 500 ∧ 1 ≤ sizeR r ∧ sizeR r ≤ 501 := by
    intro r hr
    rcases List.mem_cons.1 hr with rfl | hr
    · have : okR h.start 500 = true := by simp only [numbersOk, Bool.and_eq_true] at hn; exact hn.2
      exact okR_size this
    · have := okR_size (List.all_eq_true.1 h4 r hr)
      omega
  have HOK := Lib.hid hok
  clear hok
  obtain ⟨ow, cw, rfl⟩ := hw.open
  obtain ⟨ot, ct, rfl⟩ := ht.open
  obtain ⟨ox, cx, rfl⟩ := hx.open
  have HW := Lib.hid hw
  have HT := Lib.hid ht
  have HX := Lib.hid hx
  clear hw ht hx
  have hl0 : numbersOk h = true → 0 ≤ h.last := fun e => by simp only [numbersOk, Bool.and_eq_true, decide_eq_true_eq] at e; exact e.1.1.1.1.1
  have HN := Lib.hid hn
  rw [hn] at hl0
  clear hn
  (try replace hl0 := hl0 rfl)
  have h2' : ((h.wet.length : Int) != h.last + 1) = false := by simp only [bne, h2]; rfl
  have H3 := Lib.hid h3
  have H4 := Lib.hid h4
  have H5 := Lib.hid h5
  clear h3 h4 h5
  go_enter Try.func56, Try.ntmps56
  go_wp2_with fail
  refine wp_region_rg 31 [] none [(1, Spec.val (.bool true)), (8, Spec.val (iv (h.last + 1))), (15, Spec.val (.bool true)), (21, Spec.val (.bool true)), (28, Spec.val (.bool true))] (by kernel_rfl) (by kernel_rfl) ?_
  simp only [List.take_succ_cons, List.take_zero, List.drop_succ_cons, List.drop_zero]
  repeat (first | (refine tree_det (by rfl) _ (by rfl) (fun W hW => by go_simp; (try simp (disch := omega) only [IntWalk.i64_in, Int.tdiv_eq_ediv_of_nonneg]); try rfl) ?_; simp only [Act.put, List.setIfInBounds_toArray, List.set_cons_succ, List.set_cons_zero]) | (refine tree_skip (by rfl) (by rfl) ?_; simp only [Act.put, List.setIfInBounds_toArray, List.set_cons_succ, List.set_cons_zero]))
  refine tree_val _ (by rfl) (by rfl) 97 _ (fun W hW => by go_simp; try rfl) (fun W hE hF => by have := numbers_any h (.slice ow h.wet.length cw) (.slice ot h.turns.length ct) (.slice ox h.readings.length cx) W; rw [HN.out] at this; exact this) ?_
  simp only [Act.put, List.setIfInBounds_toArray, List.set_cons_succ, List.set_cons_zero]
  repeat (first | (refine tree_det (by rfl) _ (by rfl) (fun W hW => by go_simp; (try simp (disch := omega) only [IntWalk.i64_in, Int.tdiv_eq_ediv_of_nonneg]); try rfl) ?_; simp only [Act.put, List.setIfInBounds_toArray, List.set_cons_succ, List.set_cons_zero]) | (refine tree_skip (by rfl) (by rfl) ?_; simp only [Act.put, List.setIfInBounds_toArray, List.set_cons_succ, List.set_cons_zero]))
  refine tree_val _ (by rfl) (by rfl) 82 _ (fun W hW => by go_simp; try rfl) (fun W hE hF => by exact hours_any h _ _ _ W hl0 hl) ?_
  simp only [Act.put, List.setIfInBounds_toArray, List.set_cons_succ, List.set_cons_zero]
  repeat (first | (refine tree_det (by rfl) _ (by rfl) (fun W hW => by go_simp; (try simp (disch := omega) only [IntWalk.i64_in, Int.tdiv_eq_ediv_of_nonneg]); try rfl) ?_; simp only [Act.put, List.setIfInBounds_toArray, List.set_cons_succ, List.set_cons_zero]) | (refine tree_skip (by rfl) (by rfl) ?_; simp only [Act.put, List.setIfInBounds_toArray, List.set_cons_succ, List.set_cons_zero]))
  refine tree_val _ (by rfl) (by rfl) 79 _ (fun W hW => by go_simp; try rfl) (fun W hE hF => by have := turnings_any h (.slice ow h.wet.length cw) (.slice ot h.turns.length ct) (.slice ox h.readings.length cx) (.slice ot h.turns.length ct) h.turns W ((HT.out.alloc _).ext hE (by simp)) hl0 hl; rw [H3.out] at this; exact this) ?_
  simp only [Act.put, List.setIfInBounds_toArray, List.set_cons_succ, List.set_cons_zero]
  repeat (first | (refine tree_det (by rfl) _ (by rfl) (fun W hW => by go_simp; (try simp (disch := omega) only [IntWalk.i64_in, Int.tdiv_eq_ediv_of_nonneg]); try rfl) ?_; simp only [Act.put, List.setIfInBounds_toArray, List.set_cons_succ, List.set_cons_zero]) | (refine tree_skip (by rfl) (by rfl) ?_; simp only [Act.put, List.setIfInBounds_toArray, List.set_cons_succ, List.set_cons_zero]))
  refine tree_val _ (by rfl) (by rfl) 98 _ (fun W hW => by go_simp; try rfl) (fun W hE hF => by have := all_wet h.wet (.slice ow h.wet.length cw) W ((HW.out.alloc _).ext hE (by simp)); rw [H4.out] at this; exact this) ?_
  simp only [Act.put, List.setIfInBounds_toArray, List.set_cons_succ, List.set_cons_zero]
  repeat (first | (refine tree_det (by rfl) _ (by rfl) (fun W hW => by go_simp; (try simp (disch := omega) only [IntWalk.i64_in, Int.tdiv_eq_ediv_of_nonneg]); try rfl) ?_; simp only [Act.put, List.setIfInBounds_toArray, List.set_cons_succ, List.set_cons_zero]) | (refine tree_skip (by rfl) (by rfl) ?_; simp only [Act.put, List.setIfInBounds_toArray, List.set_cons_succ, List.set_cons_zero]))
  refine tree_val _ (by rfl) (by rfl) 93 _ (fun W hW => by go_simp; try rfl) (fun W hE hF => by have := all_readings h (.slice ow h.wet.length cw) (.slice ot h.turns.length ct) (.slice ox h.readings.length cx) h.readings (.slice ox h.readings.length cx) W ((HX.out.alloc _).ext hE (by simp)); rw [H5.out] at this; exact this) ?_
  simp only [Act.put, List.setIfInBounds_toArray, List.set_cons_succ, List.set_cons_zero]
  repeat (first | (refine tree_det (by rfl) _ (by rfl) (fun W hW => by go_simp; (try simp (disch := omega) only [IntWalk.i64_in, Int.tdiv_eq_ediv_of_nonneg]); try rfl) ?_; simp only [Act.put, List.setIfInBounds_toArray, List.set_cons_succ, List.set_cons_zero]) | (refine tree_skip (by rfl) (by rfl) ?_; simp only [Act.put, List.setIfInBounds_toArray, List.set_cons_succ, List.set_cons_zero]))
  intro W hE hF
  obtain ⟨hc, hf⟩ := bcell hE.below
  have hzE := hE.size
  (try simp only [World.size_alloc] at hzE)
  go_wp2_with fail
  have hB0 : Below w.heap.size w W := (by repeat (first | exact Below.refl _ _ | assumption | refine bgo ?_ hE.below | refine bgo ?_ (by assumption) | refine bgoAlloc ?_ _ | refine bgoDrew ?_ | refine bgoSet ?_ (by simp; try omega) _))
  refine (ranges_any h _ _ _ W (HW.out.below hB0 (Nat.le_refl _)) (by omega)).mono ?_
  rintro e w1 ⟨v, rfl, hv1, hb1⟩
  have hB1 : Below w.heap.size w w1 := bgo hB0 hb1
  clear hc hf hzE hE hF hb1 hB0
  obtain ⟨ov, cv, rfl⟩ := hv1.open
  have HV := Lib.hid hv1
  clear hv1
  go_wp2_with fail
  have hL : (h.start :: h.wet).length = h.wet.length + 1 := rfl
  have HL := Lib.hid hL
  clear hL
  go_loopw [4, 54] (fun m i wr => ∃ k : Nat, k ≤ h.wet.length + 1 ∧ i = .int .i64 k ∧ m = .int .i64 (capTo (h.start :: h.wet) k) ∧ SlAt 2 wr (.slice ov (h.wet.length + 1) cv) (h.wet.length + 1) (pairCells (h.start :: h.wet)) ∧ Below w.heap.size w wr)
    (fun _ i _ => h.wet.length + 1 - (intOf i).toNat)
  case atStart => exact ⟨0, Nat.zero_le _, rfl, rfl, HV.out, hB1⟩
  case round =>
    obtain ⟨k, hk, rfl, rfl, hv, hB⟩ := hrel
    by_cases hlt : k < h.wet.length + 1
    · obtain ⟨b, off, rfl, hb, hc0, hc1⟩ := PairsAt.cell hv (show k < (h.start :: h.wet).length from hlt)
      have hr := HOK.out _ (List.getElem_mem (show k < (h.start :: h.wet).length from hlt))
      have hs := capTo_succ (h.start :: h.wet) k hlt
      have hbd := capTo_bd (h.start :: h.wet) (fun r hr => (HOK.out r hr).2.2.2.1) k
      generalize (h.start :: h.wet)[k] = r at hc0 hc1 hr hs
      obtain ⟨hr1, hr2, hr3, hr4, hr5⟩ := hr
      unfold capStep at hs
      generalize capTo (h.start :: h.wet) k = c at hs hbd
      obtain ⟨hb1, hb2⟩ := hbd
      have HS := Lib.hid hs
      have HV := Lib.hid hv
      have HB := Lib.hid hB
      clear hs hv hB
      have hmul : 0 ≤ c * sizeR r ∧ c * sizeR r ≤ 2001 * 501 := ⟨Int.mul_nonneg (by omega) (by omega), Int.mul_le_mul hb2 hr5 (by omega) (by omega)⟩
      obtain ⟨hm1, hm2⟩ := hmul
      go_wp2_with fail
      refine (size_any r _ hr1 hr2 (by omega)).mono ?_
      rintro e w2 ⟨rfl, hb3⟩
      obtain ⟨hc, hf⟩ := bcell hb3
      go_wp2_with fail
      refine (minimum_two (c * sizeR r) 2001 _ _ _ ?_ ?_).mono ?_
      · go_simp
      · go_simp
      rintro e w3 ⟨rfl, hb4⟩
      go_wp2_with fail
      go_roundw
      case rel =>
        have hB3 : Below w.heap.size w w3 := bgo (bgoAlloc (bgo (bgoAlloc HB.out _) hb3) _) hb4
        exact ⟨k + 1, by omega, by go_num, by rw [HS.out], HV.out.below (((Below.refl wr.heap.size wr).alloc (Nat.le_refl _) _).trans ((hb3.mono (by simp)).trans (((Below.refl _ _).alloc (by have := hb3.size; simp at this; omega) _).trans (hb4.mono (by have := hb3.size; simp at this ⊢; omega))))) (Nat.le_refl _), hB3⟩
      case measure => simp [intOf]; omega
    · have hkl : k = h.wet.length + 1 := by omega
      have hend := capTo_all (h.start :: h.wet) (fun r hr => (HOK.out r hr).2.2.2.1)
      have hr := hres.out
      rw [HL.out, ← hkl] at hend
      generalize capTo (h.start :: h.wet) k = c at hend
      by_cases hc : 2000 < c
      · rw [if_pos (hend.1 hc)] at hr
        have HR := Lib.hid hr
        clear hr hend hres
        go_wp2_with fail
        go_returns
        exact ⟨by rw [HR.out]; simp, hB⟩
      · rw [if_neg (fun x => hc (hend.2 x))] at hr
        have HR := Lib.hid hr
        clear hr hend hres
        go_wp2_with fail
        go_returns
        exact ⟨by rw [HR.out]; simp, hB⟩

/-- **CheckHeap RETURNS THE ERROR OF THE HEAP.** -/
theorem check_any (h : HeapD) (wv tv xv' : Value) (w : World) (hw : PairsAt w wv h.wet) (ht : IntsAt w tv h.turns) (hx : TriplesAt w xv' h.readings) :
    Calls Try.prog 56 #[hv h wv tv xv'] w (PV (iv (fault h)) w) := by
  unfold fault
  by_cases hl : 9 < h.last ∨ 5 < h.readings.length
  · rw [if_pos hl]
    exact check_limit h wv tv xv' w hx (by omega)
  · rw [if_neg hl]
    have h9 : h.last ≤ 9 := by omega
    have h5' : (h.readings.length : Int) ≤ 5 := by omega
    by_cases hv : valid h = false
    · rw [if_pos hv]
      cases h1 : numbersOk h
      · exact check_bad1 h wv tv xv' w hw ht hx h9 h5' h1
      cases h2 : ((h.wet.length : Int) == h.last + 1)
      · exact check_bad2 h wv tv xv' w hw ht hx h9 h5' h1 h2
      cases h3 : isTurns h.last h.turns
      · exact check_bad3 h wv tv xv' w hw ht hx h9 h5' h1 h2 h3
      cases h4 : h.wet.all (okR · 20)
      · exact check_bad4 h wv tv xv' w hw ht hx h9 h5' h1 h2 h3 h4
      cases h5 : h.readings.all (okRdg h.last)
      · exact check_bad5 h wv tv xv' w hw ht hx h9 h5' h1 h2 h3 h4 h5
      exfalso
      have hd : decide ((h.wet.length : Int) = h.last + 1) = true := by simpa using h2
      simp only [valid, h1, hd, h3, h4, h5] at hv
      simp at hv
    · rw [if_neg hv]
      have hv' : valid h = true := by simpa using hv
      simp only [valid, Bool.and_eq_true] at hv'
      exact check_good h wv tv xv' w hw ht hx h9 h5' hv'.1.1.1.1 (by simpa using hv'.1.1.1.2) hv'.1.1.2 hv'.1.2 hv'.2 _ rfl

end Go.Proofs.Ytoibfafmnaooaaa
