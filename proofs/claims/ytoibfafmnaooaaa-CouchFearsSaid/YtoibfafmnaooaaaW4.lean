/-
  Contracts of package couch, third part: turnings, and the error of a heap.
-/
import Derived.WalkKit
import Derived.WalkLawsBesides
import Derived.WalkSpells
import Derived.Outline
import Derived.Handy
import Derived.KernelRfl
import Derived.Lib.Hide
import Derived.Test.YtoibfafmnaooaaaW3
namespace Go.Proofs.Ytoibfafmnaooaaa
open Go.RowKit Go.RG Go.SL Go.Shelf Cou
set_option maxHeartbeats 400000
set_option maxRecDepth 10000

theorem turnings_any (h : HeapD) (a b c v : Value) (l : List Int) (w : World) (hv' : IntsAt w v l) (h0 : 0 ≤ h.last) (h9 : h.last ≤ 9) :
    Calls Try.prog 79 #[hv h a b c, v] w (PV (.bool (isTurns h.last l)) w) := by
  have HA := Lib.hid (allI l v 109 #[] #[.pointer (some ⟨w.heap.size + 1, 0, none⟩), .pointer (some ⟨w.heap.size, 0, none⟩)] (askT h.last (-1) l)
    (fun k W => W.heap[w.heap.size + 1]? = some (.cells #[iv (((-1 : Int) :: l).getD k 0)] 3 (0, 0)) ∧ W.cell? ⟨w.heap.size, 0, none⟩ = some (iv h.last) ∧ Below w.heap.size w W)
    ((w.alloc (.cells #[iv h.last, iv h.size, iv h.cool, iv h.die, iv h.burn, iv h.start.1, iv h.start.2, a, b, c] 40)).alloc (.cells #[iv (-1)] 3))
    (enters_of Try.func109 (by kernel_rfl) rfl) (fun k W hI => hv'.below hI.2.2 (Nat.le_refl _))
    (fun k W o hI => ⟨(Below.heap_alloc _ _ _ (Array.getElem?_eq_some_iff.1 hI.1).1).trans hI.1, by
        have := World.block_lt_of_cell? W _ hI.2.1
        rw [World.cell?_of_block (w := W) (Below.heap_alloc _ _ _ this)]; exact hI.2.1, bgoAlloc hI.2.2 _⟩)
    (fun k hk W hno hI => by
      have hp := askT_prev h.last h0 l k hno (by omega)
      refine (turn1_any h l[k] (((-1 : Int) :: l).getD k 0) (w.heap.size + 1) w.heap.size W hI.1 hI.2.1 hp.1 (by omega)).mono ?_
      rintro e W' ⟨rfl, h1, h2⟩
      refine ⟨?_, ⟨?_, ?_, ?_⟩, ?_⟩
      · have e : l.getD k 0 = l[k] := by simp [hk]
        simp only [askT, e]
      · rw [List.getD_cons_succ, show l.getD k 0 = l[k] from by simp [hk]]; exact h1
      · have hlt := World.block_lt_of_cell? W _ hI.2.1
        rw [h2.cell _ _ hlt (by simp)]; exact hI.2.1
      · exact hI.2.2.trans ⟨h2.os, h2.tape, h2.output, h2.size, fun i hi => h2.block i (by have := hI.2.2.size; omega) (by simp; omega)⟩
      · exact FromOn.of_ext h2 (by simp))
    ⟨heap_new1 _ _ _, by
      rw [World.cell?_of_block (w := w.alloc (.cells #[iv h.last, iv h.size, iv h.cool, iv h.die, iv h.burn, iv h.start.1, iv h.start.2, a, b, c] 40)) (Below.heap_alloc _ _ _ (by simp))]
      simp only [World.cell?, heap_new0]; rfl, bgoAlloc (bgoAlloc (Below.refl _ _) _) _⟩)
  clear hv'
  go_enter Try.func79, Try.ntmps79
  go_wp2_with fail
  refine HA.out.mono ?_
  rintro e W' hpost
  obtain ⟨rfl, k, hk, hI⟩ := hpost.all
  have HI := Lib.hid hI.2.2
  clear hI hpost
  go_wp2_with fail
  go_returns
  refine ⟨?_, HI.out⟩
  rw [isTurns, turnsFrom_all, ← all_of_any]
  simp

theorem allR_pure (l : List Rng) (v : Value) (fid : Nat) (fst caps : Array Value) (q : Rng → Bool) (w : World) (hv : PairsAt w v l) (eg : ∀ args w, (callFunc fid args).run Try.prog w = .ok (.enter fid args) w)
    (hcall : ∀ x ∈ l, ∀ W, Below w.heap.size w W → Calls Try.prog fid (fst.push (rv x) ++ caps) W (PV (.bool (q x)) W)) :
    Calls Try.prog 98 #[v, .func (.func fid) fst caps] w (PV (.bool (l.all q)) w) := by
  refine (allR l v fid fst caps (fun k => q (l.getD k (0, 0))) (fun _ W => Below w.heap.size w W) w eg (fun k W h => hv.below h (Nat.le_refl _)) (fun k W o h => bgoAlloc h o) (fun k hk W _ h => ?_) (Below.refl _ _)).mono ?_
  · refine (hcall l[k] (List.getElem_mem _) W h).mono ?_
    rintro e W' ⟨rfl, hb⟩
    exact ⟨by simp [hk], bgo h hb, FromOn.of_below hb⟩
  · intro e W' hpost
    obtain ⟨rfl, k, _, hI⟩ := hpost.all
    refine ⟨?_, hI⟩
    rw [all_of_any, range_all]

theorem allX_pure (l : List Rdg) (v : Value) (fid : Nat) (fst caps : Array Value) (q : Rdg → Bool) (w : World) (hv : TriplesAt w v l) (eg : ∀ args w, (callFunc fid args).run Try.prog w = .ok (.enter fid args) w)
    (hcall : ∀ x ∈ l, ∀ W, Below w.heap.size w W → Calls Try.prog fid (fst.push (xv x) ++ caps) W (PV (.bool (q x)) W)) :
    Calls Try.prog 93 #[v, .func (.func fid) fst caps] w (PV (.bool (l.all q)) w) := by
  refine (allX l v fid fst caps (fun k => q (l.getD k (0, 0, 0))) (fun _ W => Below w.heap.size w W) w eg (fun k W h => hv.below h (Nat.le_refl _)) (fun k W o h => bgoAlloc h o) (fun k hk W _ h => ?_) (Below.refl _ _)).mono ?_
  · refine (hcall l[k] (List.getElem_mem _) W h).mono ?_
    rintro e W' ⟨rfl, hb⟩
    exact ⟨by simp [hk], bgo h hb, FromOn.of_below hb⟩
  · intro e W' hpost
    obtain ⟨rfl, k, _, hI⟩ := hpost.all
    refine ⟨?_, hI⟩
    rw [all_of_any, range_all]

theorem all_wet (l : List Rng) (v : Value) (w : World) (hv : PairsAt w v l) : Calls Try.prog 98 #[v, .func (.func 99) #[] #[]] w (PV (.bool (l.all (okR · 20))) w) :=
  allR_pure l v _ #[] #[] (okR · 20) w hv (enters_of Try.func99 (by kernel_rfl) rfl) (fun x _ W _ => wet_any x W)

theorem all_readings (h : HeapD) (a b c : Value) (l : List Rdg) (v : Value) (w : World) (hv' : TriplesAt w v l) :
    Calls Try.prog 93 #[v, .func (.func 96) #[hv h a b c] #[]] w (PV (.bool (l.all (okRdg h.last))) w) :=
  allX_pure l v _ #[hv h a b c] #[] (okRdg h.last) w hv' (enters_of Try.func96 (by kernel_rfl) rfl) (fun x _ W _ => reading_any h a b c x W)


theorem check_bad1 (h : HeapD) (wv tv xv' : Value) (w : World) (hw : PairsAt w wv h.wet) (ht : IntsAt w tv h.turns) (hx : TriplesAt w xv' h.readings) (hl : h.last ≤ 9) (hr : (h.readings.length : Int) ≤ 5)
    (hn : numbersOk h = false)  : Calls Try.prog 56 #[hv h wv tv xv'] w (PV (iv 1) w) := by
  obtain ⟨ow, cw, rfl⟩ := hw.open
  obtain ⟨ot, ct, rfl⟩ := ht.open
  obtain ⟨ox, cx, rfl⟩ := hx.open
  have HW := Lib.hid hw
  have HT := Lib.hid ht
  have HX := Lib.hid hx
  clear hw ht hx
  have hl0 : numbersOk h = true → 0 ≤ h.last := fun e => by simp only [numbersOk, Bool.and_eq_true, decide_eq_true_eq] at e; exact e.1.1.1.1.1
  have HN := Lib.hid hn
  rw [hn] at hl0
  clear hn
  (try replace hl0 := hl0 rfl)
  
  go_enter Try.func56, Try.ntmps56
  go_wp2_with fail
  refine wp_region_rg 31 [] none [(1, Spec.val (.bool false))] (by kernel_rfl) (by kernel_rfl) ?_
  simp only [List.take_succ_cons, List.take_zero, List.drop_succ_cons, List.drop_zero]
  repeat (first | (refine tree_det (by rfl) _ (by rfl) (fun W hW => by go_simp; (try simp (disch := omega) only [IntWalk.i64_in, Int.tdiv_eq_ediv_of_nonneg]); try rfl) ?_; simp only [Act.put, List.setIfInBounds_toArray, List.set_cons_succ, List.set_cons_zero]) | (refine tree_skip (by rfl) (by rfl) ?_; simp only [Act.put, List.setIfInBounds_toArray, List.set_cons_succ, List.set_cons_zero]))
  refine tree_val _ (by rfl) (by rfl) 97 _ (fun W hW => by go_simp; try rfl) (fun W hE hF => by have := numbers_any h (.slice ow h.wet.length cw) (.slice ot h.turns.length ct) (.slice ox h.readings.length cx) W; rw [HN.out] at this; exact this) ?_
  simp only [Act.put, List.setIfInBounds_toArray, List.set_cons_succ, List.set_cons_zero]
  repeat (first | (refine tree_det (by rfl) _ (by rfl) (fun W hW => by go_simp; (try simp (disch := omega) only [IntWalk.i64_in, Int.tdiv_eq_ediv_of_nonneg]); try rfl) ?_; simp only [Act.put, List.setIfInBounds_toArray, List.set_cons_succ, List.set_cons_zero]) | (refine tree_skip (by rfl) (by rfl) ?_; simp only [Act.put, List.setIfInBounds_toArray, List.set_cons_succ, List.set_cons_zero]))
  
  intro W hE hF
  obtain ⟨hc, hf⟩ := bcell hE.below
  have hzE := hE.size
  (try simp only [World.size_alloc] at hzE)
  go_wp2
  go_returns
  exact ⟨by simp, (by repeat (first | exact Below.refl _ _ | assumption | refine bgo ?_ hE.below | refine bgo ?_ (by assumption) | refine bgoAlloc ?_ _ | refine bgoDrew ?_ | refine bgoSet ?_ (by simp; try omega) _))⟩

theorem check_bad2 (h : HeapD) (wv tv xv' : Value) (w : World) (hw : PairsAt w wv h.wet) (ht : IntsAt w tv h.turns) (hx : TriplesAt w xv' h.readings) (hl : h.last ≤ 9) (hr : (h.readings.length : Int) ≤ 5)
    (hn : numbersOk h = true) (h2 : ((h.wet.length : Int) == h.last + 1) = false) : Calls Try.prog 56 #[hv h wv tv xv'] w (PV (iv 1) w) := by
  obtain ⟨ow, cw, rfl⟩ := hw.open
  obtain ⟨ot, ct, rfl⟩ := ht.open
  obtain ⟨ox, cx, rfl⟩ := hx.open
  have HW := Lib.hid hw
  have HT := Lib.hid ht
  have HX := Lib.hid hx
  clear hw ht hx
  have hl0 : numbersOk h = true → 0 ≤ h.last := fun e => by simp only [numbersOk, Bool.and_eq_true, decide_eq_true_eq] at e; exact e.1.1.1.1.1
  have HN := Lib.hid hn
  rw [hn] at hl0
  clear hn
  (try replace hl0 := hl0 rfl)
  have h2' : ((h.wet.length : Int) != h.last + 1) = true := by simp only [bne, h2]; rfl
  go_enter Try.func56, Try.ntmps56
  go_wp2_with fail
  refine wp_region_rg 31 [] none [(1, Spec.val (.bool true)), (8, Spec.val (iv (h.last + 1)))] (by kernel_rfl) (by kernel_rfl) ?_
  simp only [List.take_succ_cons, List.take_zero, List.drop_succ_cons, List.drop_zero]
  repeat (first | (refine tree_det (by rfl) _ (by rfl) (fun W hW => by go_simp; (try simp (disch := omega) only [IntWalk.i64_in, Int.tdiv_eq_ediv_of_nonneg]); try rfl) ?_; simp only [Act.put, List.setIfInBounds_toArray, List.set_cons_succ, List.set_cons_zero]) | (refine tree_skip (by rfl) (by rfl) ?_; simp only [Act.put, List.setIfInBounds_toArray, List.set_cons_succ, List.set_cons_zero]))
  refine tree_val _ (by rfl) (by rfl) 97 _ (fun W hW => by go_simp; try rfl) (fun W hE hF => by have := numbers_any h (.slice ow h.wet.length cw) (.slice ot h.turns.length ct) (.slice ox h.readings.length cx) W; rw [HN.out] at this; exact this) ?_
  simp only [Act.put, List.setIfInBounds_toArray, List.set_cons_succ, List.set_cons_zero]
  repeat (first | (refine tree_det (by rfl) _ (by rfl) (fun W hW => by go_simp; (try simp (disch := omega) only [IntWalk.i64_in, Int.tdiv_eq_ediv_of_nonneg]); try rfl) ?_; simp only [Act.put, List.setIfInBounds_toArray, List.set_cons_succ, List.set_cons_zero]) | (refine tree_skip (by rfl) (by rfl) ?_; simp only [Act.put, List.setIfInBounds_toArray, List.set_cons_succ, List.set_cons_zero]))
  refine tree_val _ (by rfl) (by rfl) 82 _ (fun W hW => by go_simp; try rfl) (fun W hE hF => by exact hours_any h _ _ _ W hl0 hl) ?_
  simp only [Act.put, List.setIfInBounds_toArray, List.set_cons_succ, List.set_cons_zero]
  repeat (first | (refine tree_det (by rfl) _ (by rfl) (fun W hW => by go_simp; (try simp (disch := omega) only [IntWalk.i64_in, Int.tdiv_eq_ediv_of_nonneg]); try rfl) ?_; simp only [Act.put, List.setIfInBounds_toArray, List.set_cons_succ, List.set_cons_zero]) | (refine tree_skip (by rfl) (by rfl) ?_; simp only [Act.put, List.setIfInBounds_toArray, List.set_cons_succ, List.set_cons_zero]))
  intro W hE hF
  obtain ⟨hc, hf⟩ := bcell hE.below
  have hzE := hE.size
  (try simp only [World.size_alloc] at hzE)
  go_wp2
  go_returns
  exact ⟨by simp, (by repeat (first | exact Below.refl _ _ | assumption | refine bgo ?_ hE.below | refine bgo ?_ (by assumption) | refine bgoAlloc ?_ _ | refine bgoDrew ?_ | refine bgoSet ?_ (by simp; try omega) _))⟩

theorem check_bad3 (h : HeapD) (wv tv xv' : Value) (w : World) (hw : PairsAt w wv h.wet) (ht : IntsAt w tv h.turns) (hx : TriplesAt w xv' h.readings) (hl : h.last ≤ 9) (hr : (h.readings.length : Int) ≤ 5)
    (hn : numbersOk h = true) (h2 : ((h.wet.length : Int) == h.last + 1) = true) (h3 : isTurns h.last h.turns = false) : Calls Try.prog 56 #[hv h wv tv xv'] w (PV (iv 1) w) := by
  obtain ⟨ow, cw, rfl⟩ := hw.open
  obtain ⟨ot, ct, rfl⟩ := ht.open
  obtain ⟨ox, cx, rfl⟩ := hx.open
  have HW := Lib.hid hw
  have HT := Lib.hid ht
  have HX := Lib.hid hx
  clear hw ht hx
  have hl0 : numbersOk h = true → 0 ≤ h.last := fun e => by simp only [numbersOk, Bool.and_eq_true, decide_eq_true_eq] at e; exact e.1.1.1.1.1
  have HN := Lib.hid hn
  rw [hn] at hl0
  clear hn
  (try replace hl0 := hl0 rfl)
  have h2' : ((h.wet.length : Int) != h.last + 1) = false := by simp only [bne, h2]; rfl
  have H3 := Lib.hid h3
  clear h3
  go_enter Try.func56, Try.ntmps56
  go_wp2_with fail
  refine wp_region_rg 31 [] none [(1, Spec.val (.bool true)), (8, Spec.val (iv (h.last + 1))), (15, Spec.val (.bool false))] (by kernel_rfl) (by kernel_rfl) ?_
  simp only [List.take_succ_cons, List.take_zero, List.drop_succ_cons, List.drop_zero]
  repeat (first | (refine tree_det (by rfl) _ (by rfl) (fun W hW => by go_simp; (try simp (disch := omega) only [IntWalk.i64_in, Int.tdiv_eq_ediv_of_nonneg]); try rfl) ?_; simp only [Act.put, List.setIfInBounds_toArray, List.set_cons_succ, List.set_cons_zero]) | (refine tree_skip (by rfl) (by rfl) ?_; simp only [Act.put, List.setIfInBounds_toArray, List.set_cons_succ, List.set_cons_zero]))
  refine tree_val _ (by rfl) (by rfl) 97 _ (fun W hW => by go_simp; try rfl) (fun W hE hF => by have := numbers_any h (.slice ow h.wet.length cw) (.slice ot h.turns.length ct) (.slice ox h.readings.length cx) W; rw [HN.out] at this; exact this) ?_
  simp only [Act.put, List.setIfInBounds_toArray, List.set_cons_succ, List.set_cons_zero]
  repeat (first | (refine tree_det (by rfl) _ (by rfl) (fun W hW => by go_simp; (try simp (disch := omega) only [IntWalk.i64_in, Int.tdiv_eq_ediv_of_nonneg]); try rfl) ?_; simp only [Act.put, List.setIfInBounds_toArray, List.set_cons_succ, List.set_cons_zero]) | (refine tree_skip (by rfl) (by rfl) ?_; simp only [Act.put, List.setIfInBounds_toArray, List.set_cons_succ, List.set_cons_zero]))
  refine tree_val _ (by rfl) (by rfl) 82 _ (fun W hW => by go_simp; try rfl) (fun W hE hF => by exact hours_any h _ _ _ W hl0 hl) ?_
  simp only [Act.put, List.setIfInBounds_toArray, List.set_cons_succ, List.set_cons_zero]
  repeat (first | (refine tree_det (by rfl) _ (by rfl) (fun W hW => by go_simp; (try simp (disch := omega) only [IntWalk.i64_in, Int.tdiv_eq_ediv_of_nonneg]); try rfl) ?_; simp only [Act.put, List.setIfInBounds_toArray, List.set_cons_succ, List.set_cons_zero]) | (refine tree_skip (by rfl) (by rfl) ?_; simp only [Act.put, List.setIfInBounds_toArray, List.set_cons_succ, List.set_cons_zero]))
  refine tree_val _ (by rfl) (by rfl) 79 _ (fun W hW => by go_simp; try rfl) (fun W hE hF => by have := turnings_any h (.slice ow h.wet.length cw) (.slice ot h.turns.length ct) (.slice ox h.readings.length cx) (.slice ot h.turns.length ct) h.turns W ((HT.out.alloc _).ext hE (by simp)) hl0 hl; rw [H3.out] at this; exact this) ?_
  simp only [Act.put, List.setIfInBounds_toArray, List.set_cons_succ, List.set_cons_zero]
  repeat (first | (refine tree_det (by rfl) _ (by rfl) (fun W hW => by go_simp; (try simp (disch := omega) only [IntWalk.i64_in, Int.tdiv_eq_ediv_of_nonneg]); try rfl) ?_; simp only [Act.put, List.setIfInBounds_toArray, List.set_cons_succ, List.set_cons_zero]) | (refine tree_skip (by rfl) (by rfl) ?_; simp only [Act.put, List.setIfInBounds_toArray, List.set_cons_succ, List.set_cons_zero]))
  intro W hE hF
  obtain ⟨hc, hf⟩ := bcell hE.below
  have hzE := hE.size
  (try simp only [World.size_alloc] at hzE)
  go_wp2
  go_returns
  exact ⟨by simp, (by repeat (first | exact Below.refl _ _ | assumption | refine bgo ?_ hE.below | refine bgo ?_ (by assumption) | refine bgoAlloc ?_ _ | refine bgoDrew ?_ | refine bgoSet ?_ (by simp; try omega) _))⟩

theorem check_bad4 (h : HeapD) (wv tv xv' : Value) (w : World) (hw : PairsAt w wv h.wet) (ht : IntsAt w tv h.turns) (hx : TriplesAt w xv' h.readings) (hl : h.last ≤ 9) (hr : (h.readings.length : Int) ≤ 5)
    (hn : numbersOk h = true) (h2 : ((h.wet.length : Int) == h.last + 1) = true) (h3 : isTurns h.last h.turns = true) (h4 : h.wet.all (okR · 20) = false) : Calls Try.prog 56 #[hv h wv tv xv'] w (PV (iv 1) w) := by
  obtain ⟨ow, cw, rfl⟩ := hw.open
  obtain ⟨ot, ct, rfl⟩ := ht.open
  obtain ⟨ox, cx, rfl⟩ := hx.open
  have HW := Lib.hid hw
  have HT := Lib.hid ht
  have HX := Lib.hid hx
  clear hw ht hx
  have hl0 : numbersOk h = true → 0 ≤ h.last := fun e => by simp only [numbersOk, Bool.and_eq_true, decide_eq_true_eq] at e; exact e.1.1.1.1.1
  have HN := Lib.hid hn
  rw [hn] at hl0
  clear hn
  (try replace hl0 := hl0 rfl)
  have h2' : ((h.wet.length : Int) != h.last + 1) = false := by simp only [bne, h2]; rfl
  have H3 := Lib.hid h3
  have H4 := Lib.hid h4
  clear h3 h4
  go_enter Try.func56, Try.ntmps56
  go_wp2_with fail
  refine wp_region_rg 31 [] none [(1, Spec.val (.bool true)), (8, Spec.val (iv (h.last + 1))), (15, Spec.val (.bool true)), (21, Spec.val (.bool false))] (by kernel_rfl) (by kernel_rfl) ?_
  simp only [List.take_succ_cons, List.take_zero, List.drop_succ_cons, List.drop_zero]
  repeat (first | (refine tree_det (by rfl) _ (by rfl) (fun W hW => by go_simp; (try simp (disch := omega) only [IntWalk.i64_in, Int.tdiv_eq_ediv_of_nonneg]); try rfl) ?_; simp only [Act.put, List.setIfInBounds_toArray, List.set_cons_succ, List.set_cons_zero]) | (refine tree_skip (by rfl) (by rfl) ?_; simp only [Act.put, List.setIfInBounds_toArray, List.set_cons_succ, List.set_cons_zero]))
  refine tree_val _ (by rfl) (by rfl) 97 _ (fun W hW => by go_simp; try rfl) (fun W hE hF => by have := numbers_any h (.slice ow h.wet.length cw) (.slice ot h.turns.length ct) (.slice ox h.readings.length cx) W; rw [HN.out] at this; exact this) ?_
  simp only [Act.put, List.setIfInBounds_toArray, List.set_cons_succ, List.set_cons_zero]
  repeat (first | (refine tree_det (by rfl) _ (by rfl) (fun W hW => by go_simp; (try simp (disch := omega) only [IntWalk.i64_in, Int.tdiv_eq_ediv_of_nonneg]); try rfl) ?_; simp only [Act.put, List.setIfInBounds_toArray, List.set_cons_succ, List.set_cons_zero]) | (refine tree_skip (by rfl) (by rfl) ?_; simp only [Act.put, List.setIfInBounds_toArray, List.set_cons_succ, List.set_cons_zero]))
  refine tree_val _ (by rfl) (by rfl) 82 _ (fun W hW => by go_simp; try rfl) (fun W hE hF => by exact hours_any h _ _ _ W hl0 hl) ?_
  simp only [Act.put, List.setIfInBounds_toArray, List.set_cons_succ, List.set_cons_zero]
  repeat (first | (refine tree_det (by rfl) _ (by rfl) (fun W hW => by go_simp; (try simp (disch := omega) only [IntWalk.i64_in, Int.tdiv_eq_ediv_of_nonneg]); try rfl) ?_; simp only [Act.put, List.setIfInBounds_toArray, List.set_cons_succ, List.set_cons_zero]) | (refine tree_skip (by rfl) (by rfl) ?_; simp only [Act.put, List.setIfInBounds_toArray, List.set_cons_succ, List.set_cons_zero]))
  refine tree_val _ (by rfl) (by rfl) 79 _ (fun W hW => by go_simp; try rfl) (fun W hE hF => by have := turnings_any h (.slice ow h.wet.length cw) (.slice ot h.turns.length ct) (.slice ox h.readings.length cx) (.slice ot h.turns.length ct) h.turns W ((HT.out.alloc _).ext hE (by simp)) hl0 hl; rw [H3.out] at this; exact this) ?_
  simp only [Act.put, List.setIfInBounds_toArray, List.set_cons_succ, List.set_cons_zero]
  repeat (first | (refine tree_det (by rfl) _ (by rfl) (fun W hW => by go_simp; (try simp (disch := omega) only [IntWalk.i64_in, Int.tdiv_eq_ediv_of_nonneg]); try rfl) ?_; simp only [Act.put, List.setIfInBounds_toArray, List.set_cons_succ, List.set_cons_zero]) | (refine tree_skip (by rfl) (by rfl) ?_; simp only [Act.put, List.setIfInBounds_toArray, List.set_cons_succ, List.set_cons_zero]))
  refine tree_val _ (by rfl) (by rfl) 98 _ (fun W hW => by go_simp; try rfl) (fun W hE hF => by have := all_wet h.wet (.slice ow h.wet.length cw) W ((HW.out.alloc _).ext hE (by simp)); rw [H4.out] at this; exact this) ?_
  simp only [Act.put, List.setIfInBounds_toArray, List.set_cons_succ, List.set_cons_zero]
  repeat (first | (refine tree_det (by rfl) _ (by rfl) (fun W hW => by go_simp; (try simp (disch := omega) only [IntWalk.i64_in, Int.tdiv_eq_ediv_of_nonneg]); try rfl) ?_; simp only [Act.put, List.setIfInBounds_toArray, List.set_cons_succ, List.set_cons_zero]) | (refine tree_skip (by rfl) (by rfl) ?_; simp only [Act.put, List.setIfInBounds_toArray, List.set_cons_succ, List.set_cons_zero]))
  intro W hE hF
  obtain ⟨hc, hf⟩ := bcell hE.below
  have hzE := hE.size
  (try simp only [World.size_alloc] at hzE)
  go_wp2
  go_returns
  exact ⟨by simp, (by repeat (first | exact Below.refl _ _ | assumption | refine bgo ?_ hE.below | refine bgo ?_ (by assumption) | refine bgoAlloc ?_ _ | refine bgoDrew ?_ | refine bgoSet ?_ (by simp; try omega) _))⟩

theorem check_bad5 (h : HeapD) (wv tv xv' : Value) (w : World) (hw : PairsAt w wv h.wet) (ht : IntsAt w tv h.turns) (hx : TriplesAt w xv' h.readings) (hl : h.last ≤ 9) (hr : (h.readings.length : Int) ≤ 5)
    (hn : numbersOk h = true) (h2 : ((h.wet.length : Int) == h.last + 1) = true) (h3 : isTurns h.last h.turns = true) (h4 : h.wet.all (okR · 20) = true) (h5 : h.readings.all (okRdg h.last) = false) : Calls Try.prog 56 #[hv h wv tv xv'] w (PV (iv 1) w) := by
  obtain ⟨ow, cw, rfl⟩ := hw.open
  obtain ⟨ot, ct, rfl⟩ := ht.open
  obtain ⟨ox, cx, rfl⟩ := hx.open
  have HW := Lib.hid hw
  have HT := Lib.hid ht
  have HX := Lib.hid hx
  clear hw ht hx
  have hl0 : numbersOk h = true → 0 ≤ h.last := fun e => by simp only [numbersOk, Bool.and_eq_true, decide_eq_true_eq] at e; exact e.1.1.1.1.1
  have HN := Lib.hid hn
  rw [hn] at hl0
  clear hn
  (try replace hl0 := hl0 rfl)
  have h2' : ((h.wet.length : Int) != h.last + 1) = false := by simp only [bne, h2]; rfl
  have H3 := Lib.hid h3
  have H4 := Lib.hid h4
  have H5 := Lib.hid h5
  clear h3 h4 h5
  go_enter Try.func56, Try.ntmps56
  go_wp2_with fail
  refine wp_region_rg 31 [] none [(1, Spec.val (.bool true)), (8, Spec.val (iv (h.last + 1))), (15, Spec.val (.bool true)), (21, Spec.val (.bool true)), (28, Spec.val (.bool false))] (by kernel_rfl) (by kernel_rfl) ?_
  simp only [List.take_succ_cons, List.take_zero, List.drop_succ_cons, List.drop_zero]
  repeat (first | (refine tree_det (by rfl) _ (by rfl) (fun W hW => by go_simp; (try simp (disch := omega) only [IntWalk.i64_in, Int.tdiv_eq_ediv_of_nonneg]); try rfl) ?_; simp only [Act.put, List.setIfInBounds_toArray, List.set_cons_succ, List.set_cons_zero]) | (refine tree_skip (by rfl) (by rfl) ?_; simp only [Act.put, List.setIfInBounds_toArray, List.set_cons_succ, List.set_cons_zero]))
  refine tree_val _ (by rfl) (by rfl) 97 _ (fun W hW => by go_simp; try rfl) (fun W hE hF => by have := numbers_any h (.slice ow h.wet.length cw) (.slice ot h.turns.length ct) (.slice ox h.readings.length cx) W; rw [HN.out] at this; exact this) ?_
  simp only [Act.put, List.setIfInBounds_toArray, List.set_cons_succ, List.set_cons_zero]
  repeat (first | (refine tree_det (by rfl) _ (by rfl) (fun W hW => by go_simp; (try simp (disch := omega) only [IntWalk.i64_in, Int.tdiv_eq_ediv_of_nonneg]); try rfl) ?_; simp only [Act.put, List.setIfInBounds_toArray, List.set_cons_succ, List.set_cons_zero]) | (refine tree_skip (by rfl) (by rfl) ?_; simp only [Act.put, List.setIfInBounds_toArray, List.set_cons_succ, List.set_cons_zero]))
  refine tree_val _ (by rfl) (by rfl) 82 _ (fun W hW => by go_simp; try rfl) (fun W hE hF => by exact hours_any h _ _ _ W hl0 hl) ?_
  simp only [Act.put, List.setIfInBounds_toArray, List.set_cons_succ, List.set_cons_zero]
  repeat (first | (refine tree_det (by rfl) _ (by rfl) (fun W hW => by go_simp; (try simp (disch := omega) only [IntWalk.i64_in, Int.tdiv_eq_ediv_of_nonneg]); try rfl) ?_; simp only [Act.put, List.setIfInBounds_toArray, List.set_cons_succ, List.set_cons_zero]) | (refine tree_skip (by rfl) (by rfl) ?_; simp only [Act.put, List.setIfInBounds_toArray, List.set_cons_succ, List.set_cons_zero]))
  refine tree_val _ (by rfl) (by rfl) 79 _ (fun W hW => by go_simp; try rfl) (fun W hE hF => by have := turnings_any h (.slice ow h.wet.length cw) (.slice ot h.turns.length ct) (.slice ox h.readings.length cx) (.slice ot h.turns.length ct) h.turns W ((HT.out.alloc _).ext hE (by simp)) hl0 hl; rw [H3.out] at this; exact this) ?_
  simp only [Act.put, List.setIfInBounds_toArray, List.set_cons_succ, List.set_cons_zero]
  repeat (first | (refine tree_det (by rfl) _ (by rfl) (fun W hW => by go_simp; (try simp (disch := omega) only [IntWalk.i64_in, Int.tdiv_eq_ediv_of_nonneg]); try rfl) ?_; simp only [Act.put, List.setIfInBounds_toArray, List.set_cons_succ, List.set_cons_zero]) | (refine tree_skip (by rfl) (by rfl) ?_; simp only [Act.put, List.setIfInBounds_toArray, List.set_cons_succ, List.set_cons_zero]))
  refine tree_val _ (by rfl) (by rfl) 98 _ (fun W hW => by go_simp; try rfl) (fun W hE hF => by have := all_wet h.wet (.slice ow h.wet.length cw) W ((HW.out.alloc _).ext hE (by simp)); rw [H4.out] at this; exact this) ?_
  simp only [Act.put, List.setIfInBounds_toArray, List.set_cons_succ, List.set_cons_zero]
  repeat (first | (refine tree_det (by rfl) _ (by rfl) (fun W hW => by go_simp; (try simp (disch := omega) only [IntWalk.i64_in, Int.tdiv_eq_ediv_of_nonneg]); try rfl) ?_; simp only [Act.put, List.setIfInBounds_toArray, List.set_cons_succ, List.set_cons_zero]) | (refine tree_skip (by rfl) (by rfl) ?_; simp only [Act.put, List.setIfInBounds_toArray, List.set_cons_succ, List.set_cons_zero]))
  refine tree_val _ (by rfl) (by rfl) 93 _ (fun W hW => by go_simp; try rfl) (fun W hE hF => by have := all_readings h (.slice ow h.wet.length cw) (.slice ot h.turns.length ct) (.slice ox h.readings.length cx) h.readings (.slice ox h.readings.length cx) W ((HX.out.alloc _).ext hE (by simp)); rw [H5.out] at this; exact this) ?_
  simp only [Act.put, List.setIfInBounds_toArray, List.set_cons_succ, List.set_cons_zero]
  repeat (first | (refine tree_det (by rfl) _ (by rfl) (fun W hW => by go_simp; (try simp (disch := omega) only [IntWalk.i64_in, Int.tdiv_eq_ediv_of_nonneg]); try rfl) ?_; simp only [Act.put, List.setIfInBounds_toArray, List.set_cons_succ, List.set_cons_zero]) | (refine tree_skip (by rfl) (by rfl) ?_; simp only [Act.put, List.setIfInBounds_toArray, List.set_cons_succ, List.set_cons_zero]))
  intro W hE hF
  obtain ⟨hc, hf⟩ := bcell hE.below
  have hzE := hE.size
  (try simp only [World.size_alloc] at hzE)
  go_wp2
  go_returns
  exact ⟨by simp, (by repeat (first | exact Below.refl _ _ | assumption | refine bgo ?_ hE.below | refine bgo ?_ (by assumption) | refine bgoAlloc ?_ _ | refine bgoDrew ?_ | refine bgoSet ?_ (by simp; try omega) _))⟩

end Go.Proofs.Ytoibfafmnaooaaa
