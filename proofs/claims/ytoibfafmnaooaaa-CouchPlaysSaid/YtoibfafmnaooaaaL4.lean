/-
  The walk of CouchPlays: whatever the heap, the truth and the turnings, it returns true; nothing that was there has turned.
-/
import Derived.WalkKit
import Derived.WalkLawsBesides
import Derived.WalkSpells
import Derived.Outline
import Derived.Handy
import Derived.KernelRfl
import Derived.Lib.Hide
import Derived.Test.YtoibfafmnaooaaaR10
namespace Go.Proofs.Ytoibfafmnaooaaa
open Go.RowKit Go.RG Go.SL Go.Shelf Cou
set_option maxHeartbeats 400000
set_option maxRecDepth 10000

theorem gcalls {P : Program} {f : FuncId} {args : Array Value} {R : Ending → World → Prop} {W : World} (h : ∀ W', W' = W → Calls P f args W' R) : Calls P f args W R := h W rfl

theorem thin_len {h : HeapD} (ht : thinB h = true) : h.wet.length ≤ 12 ∧ h.turns.length ≤ 12 ∧ h.readings.length ≤ 7 := by
  simp only [thinB, Bool.and_eq_true, decide_eq_true_eq] at ht
  exact ⟨ht.1, ht.2.1, ht.2.2.1⟩

theorem hv_inj4 {h : HeapD} {a b c a' b' c' : Value} (he : hv h a b c = hv h a' b' c') : a = a' ∧ b = b' ∧ c = c' := by
  simp only [Value.agg.injEq, Array.mk.injEq, List.cons.injEq, and_true, true_and] at he
  exact he

theorem getD_lt {α : Type} {l : List α} {i : Nat} {d : α} (h : i < l.length) : l.getD i d = l[i] := by simp [List.getD, h]

/-- The error that is wanted. -/
def wantP (h : HeapD) (t : Int × List Int) (turns : List Int) : Int := if fault h = 0 then (if listedT h t = false ∨ isTurns h.last turns = false then 2 else 0) else fault h
theorem wantP_eq (h : HeapD) (t : Int × List Int) (turns : List Int) : playErr h t turns = wantP h t turns := by
  unfold playErr wantP
  by_cases hf : fault h = 0 <;> simp [hf]

set_option maxHeartbeats 1500000 in
theorem CouchPlays_any (h : HeapD) (wv tv xv' uv rv' : Value) (t : Int × List Int) (turns : List Int) (w : World) (hw : PairsAt w wv h.wet) (ht : IntsAt w tv h.turns) (hx : TriplesAt w xv' h.readings) (hu : IntsAt w uv t.2) (hr : IntsAt w rv' turns) :
    Calls Try.prog 14 #[hv h wv tv xv', .agg #[iv t.1, uv], rv'] w (PV (.bool true) w) := by
  have hlenu := hu.len
  have hlenr := hr.len
  obtain ⟨ow, cw, rfl⟩ := hw.open
  obtain ⟨ot, ct, rfl⟩ := ht.open
  obtain ⟨ox, cx, rfl⟩ := hx.open
  have HW := Lib.hid hw
  have HT := Lib.hid ht
  have HX := Lib.hid hx
  clear hw ht hx
  obtain ⟨ou, cu, rfl⟩ := hu.open
  obtain ⟨or', cr, rfl⟩ := hr.open
  have HU := Lib.hid hu
  have HR := Lib.hid hr
  clear hu hr
  cases hth : thinB h
  case false =>
    have HTH := Lib.hid hth
    clear hth
    go_enter Try.func14, Try.ntmps14
    go_wp2_with fail
    refine gcalls fun B0 hB0 => ?_
    have HBB := Lib.hid (show Below w.heap.size w B0 from by rw [hB0]; exact (by repeat (first | exact Below.refl _ _ | assumption | refine bgo ?_ (by assumption) | refine bgoAlloc ?_ _ | refine bgoDrew ?_ | refine bgoSet ?_ (by simp; omega) _)))
    have HX1 := Lib.hid (show B0.heap[w.heap.size]? = some (.cells #[.int .i64 h.last, .int .i64 h.size, .int .i64 h.cool, .int .i64 h.die, .int .i64 h.burn, .int .i64 h.start.1, .int .i64 h.start.2, .slice ow h.wet.length cw, .slice ot h.turns.length ct, .slice ox h.readings.length cx] 28 (0, 0)) from by rw [hB0]; exact (Below.heap_alloc _ _ _ (by first | omega | (simp; done) | (simp; omega))).trans (heap_new0 _ _))
    have HX2 := Lib.hid (show B0.heap[w.heap.size + 1]? = some (.cells #[iv t.1, .slice ou t.2.length cu] 66 (0, 0)) from by rw [hB0]; exact heap_new1 _ _ _)
    have HW0 := Lib.hid (HW.out.below HBB.out (Nat.le_refl _))
    have HT0 := Lib.hid (HT.out.below HBB.out (Nat.le_refl _))
    have HX0 := Lib.hid (HX.out.below HBB.out (Nat.le_refl _))
    have HU0 := Lib.hid (HU.out.below HBB.out (Nat.le_refl _))
    have HR0 := Lib.hid (HR.out.below HBB.out (Nat.le_refl _))
    have HB0 := Lib.hid (Below.refl B0.heap.size B0)
    clear hB0
    refine (Thin_any h _ _ _ _ (HW0.out.below HB0.out (Nat.le_refl _)) (HT0.out.below HB0.out (Nat.le_refl _)) (HX0.out.below HB0.out (Nat.le_refl _))).mono ?_
    rw [HTH.out]
    rintro e W1 ⟨rfl, hb⟩
    (try clear hc1 hs1 hc2 hs2)
    have HD1 := Lib.hid hb
    have HB1 := Lib.hid (bgo HB0.out hb)
    obtain ⟨hc1, _, hs1⟩ := cells_of_block ((HB1.out.block _ (cells_of_block HX1.out).2.2).trans HX1.out)
    obtain ⟨hc2, _, hs2⟩ := cells_of_block ((HB1.out.block _ (cells_of_block HX2.out).2.2).trans HX2.out)
    clear hb
    go_wp2_with fail
    refine (awake_any _).mono ?_
    rintro e W2 ⟨rfl, hb⟩
    (try clear hc1 hs1 hc2 hs2)
    have HD2 := Lib.hid hb
    have HB2 := Lib.hid (bgo HB1.out hb)
    obtain ⟨hc1, _, hs1⟩ := cells_of_block ((HB2.out.block _ (cells_of_block HX1.out).2.2).trans HX1.out)
    obtain ⟨hc2, _, hs2⟩ := cells_of_block ((HB2.out.block _ (cells_of_block HX2.out).2.2).trans HX2.out)
    clear hb
    go_wp2_with fail
    go_returns
    exact ⟨by simp, bgo HBB.out HB2.out⟩
  obtain ⟨hlw, hlt, hlx⟩ := thin_len hth
  have HTH := Lib.hid hth
  clear hth
  by_cases hu14 : (14 : Int) < t.2.length
  case pos =>
    go_enter Try.func14, Try.ntmps14
    go_wp2_with fail
    refine gcalls fun B0 hB0 => ?_
    have HBB := Lib.hid (show Below w.heap.size w B0 from by rw [hB0]; exact (by repeat (first | exact Below.refl _ _ | assumption | refine bgo ?_ (by assumption) | refine bgoAlloc ?_ _ | refine bgoDrew ?_ | refine bgoSet ?_ (by simp; omega) _)))
    have HX1 := Lib.hid (show B0.heap[w.heap.size]? = some (.cells #[.int .i64 h.last, .int .i64 h.size, .int .i64 h.cool, .int .i64 h.die, .int .i64 h.burn, .int .i64 h.start.1, .int .i64 h.start.2, .slice ow h.wet.length cw, .slice ot h.turns.length ct, .slice ox h.readings.length cx] 28 (0, 0)) from by rw [hB0]; exact (Below.heap_alloc _ _ _ (by first | omega | (simp; done) | (simp; omega))).trans (heap_new0 _ _))
    have HX2 := Lib.hid (show B0.heap[w.heap.size + 1]? = some (.cells #[iv t.1, .slice ou t.2.length cu] 66 (0, 0)) from by rw [hB0]; exact heap_new1 _ _ _)
    have HW0 := Lib.hid (HW.out.below HBB.out (Nat.le_refl _))
    have HT0 := Lib.hid (HT.out.below HBB.out (Nat.le_refl _))
    have HX0 := Lib.hid (HX.out.below HBB.out (Nat.le_refl _))
    have HU0 := Lib.hid (HU.out.below HBB.out (Nat.le_refl _))
    have HR0 := Lib.hid (HR.out.below HBB.out (Nat.le_refl _))
    have HB0 := Lib.hid (Below.refl B0.heap.size B0)
    clear hB0
    refine (Thin_any h _ _ _ _ (HW0.out.below HB0.out (Nat.le_refl _)) (HT0.out.below HB0.out (Nat.le_refl _)) (HX0.out.below HB0.out (Nat.le_refl _))).mono ?_
    rw [HTH.out]
    rintro e W1 ⟨rfl, hb⟩
    (try clear hc1 hs1 hc2 hs2)
    have HD1 := Lib.hid hb
    have HB1 := Lib.hid (bgo HB0.out hb)
    obtain ⟨hc1, _, hs1⟩ := cells_of_block ((HB1.out.block _ (cells_of_block HX1.out).2.2).trans HX1.out)
    obtain ⟨hc2, _, hs2⟩ := cells_of_block ((HB1.out.block _ (cells_of_block HX2.out).2.2).trans HX2.out)
    clear hb
    go_wp2_with fail
    refine (awake_any _).mono ?_
    rintro e W2 ⟨rfl, hb⟩
    (try clear hc1 hs1 hc2 hs2)
    have HD2 := Lib.hid hb
    have HB2 := Lib.hid (bgo HB1.out hb)
    obtain ⟨hc1, _, hs1⟩ := cells_of_block ((HB2.out.block _ (cells_of_block HX1.out).2.2).trans HX1.out)
    obtain ⟨hc2, _, hs2⟩ := cells_of_block ((HB2.out.block _ (cells_of_block HX2.out).2.2).trans HX2.out)
    clear hb
    go_wp2_with fail
    go_returns
    exact ⟨by simp, bgo HBB.out HB2.out⟩
  by_cases hr14 : (14 : Int) < turns.length
  case pos =>
    go_enter Try.func14, Try.ntmps14
    go_wp2_with fail
    refine gcalls fun B0 hB0 => ?_
    have HBB := Lib.hid (show Below w.heap.size w B0 from by rw [hB0]; exact (by repeat (first | exact Below.refl _ _ | assumption | refine bgo ?_ (by assumption) | refine bgoAlloc ?_ _ | refine bgoDrew ?_ | refine bgoSet ?_ (by simp; omega) _)))
    have HX1 := Lib.hid (show B0.heap[w.heap.size]? = some (.cells #[.int .i64 h.last, .int .i64 h.size, .int .i64 h.cool, .int .i64 h.die, .int .i64 h.burn, .int .i64 h.start.1, .int .i64 h.start.2, .slice ow h.wet.length cw, .slice ot h.turns.length ct, .slice ox h.readings.length cx] 28 (0, 0)) from by rw [hB0]; exact (Below.heap_alloc _ _ _ (by first | omega | (simp; done) | (simp; omega))).trans (heap_new0 _ _))
    have HX2 := Lib.hid (show B0.heap[w.heap.size + 1]? = some (.cells #[iv t.1, .slice ou t.2.length cu] 66 (0, 0)) from by rw [hB0]; exact heap_new1 _ _ _)
    have HW0 := Lib.hid (HW.out.below HBB.out (Nat.le_refl _))
    have HT0 := Lib.hid (HT.out.below HBB.out (Nat.le_refl _))
    have HX0 := Lib.hid (HX.out.below HBB.out (Nat.le_refl _))
    have HU0 := Lib.hid (HU.out.below HBB.out (Nat.le_refl _))
    have HR0 := Lib.hid (HR.out.below HBB.out (Nat.le_refl _))
    have HB0 := Lib.hid (Below.refl B0.heap.size B0)
    clear hB0
    refine (Thin_any h _ _ _ _ (HW0.out.below HB0.out (Nat.le_refl _)) (HT0.out.below HB0.out (Nat.le_refl _)) (HX0.out.below HB0.out (Nat.le_refl _))).mono ?_
    rw [HTH.out]
    rintro e W1 ⟨rfl, hb⟩
    (try clear hc1 hs1 hc2 hs2)
    have HD1 := Lib.hid hb
    have HB1 := Lib.hid (bgo HB0.out hb)
    obtain ⟨hc1, _, hs1⟩ := cells_of_block ((HB1.out.block _ (cells_of_block HX1.out).2.2).trans HX1.out)
    obtain ⟨hc2, _, hs2⟩ := cells_of_block ((HB1.out.block _ (cells_of_block HX2.out).2.2).trans HX2.out)
    clear hb
    go_wp2_with fail
    refine (awake_any _).mono ?_
    rintro e W2 ⟨rfl, hb⟩
    (try clear hc1 hs1 hc2 hs2)
    have HD2 := Lib.hid hb
    have HB2 := Lib.hid (bgo HB1.out hb)
    obtain ⟨hc1, _, hs1⟩ := cells_of_block ((HB2.out.block _ (cells_of_block HX1.out).2.2).trans HX1.out)
    obtain ⟨hc2, _, hs2⟩ := cells_of_block ((HB2.out.block _ (cells_of_block HX2.out).2.2).trans HX2.out)
    clear hb
    go_wp2_with fail
    go_returns
    exact ⟨by simp, bgo HBB.out HB2.out⟩
  obtain ⟨P, hP⟩ : ∃ P, playOut h t turns = P := ⟨_, rfl⟩
  obtain ⟨E, hE⟩ : ∃ E, playErr h t turns = E := ⟨_, rfl⟩
  obtain ⟨f, hf⟩ : ∃ f, fault h = f := ⟨_, rfl⟩
  obtain ⟨q, hq⟩ : ∃ q, proveR h t = q := ⟨_, rfl⟩
  have HP := Lib.hid hP
  have HE := Lib.hid hE
  have HF := Lib.hid hf
  have HQ := Lib.hid hq
  clear hP hE hf hq
  go_enter Try.func14, Try.ntmps14
  go_wp2_with fail
  refine gcalls fun B0 hB0 => ?_
  have HBB := Lib.hid (show Below w.heap.size w B0 from by rw [hB0]; exact (by repeat (first | exact Below.refl _ _ | assumption | refine bgo ?_ (by assumption) | refine bgoAlloc ?_ _ | refine bgoDrew ?_ | refine bgoSet ?_ (by simp; omega) _)))
  have HX1 := Lib.hid (show B0.heap[w.heap.size]? = some (.cells #[.int .i64 h.last, .int .i64 h.size, .int .i64 h.cool, .int .i64 h.die, .int .i64 h.burn, .int .i64 h.start.1, .int .i64 h.start.2, .slice ow h.wet.length cw, .slice ot h.turns.length ct, .slice ox h.readings.length cx] 28 (0, 0)) from by rw [hB0]; exact (Below.heap_alloc _ _ _ (by first | omega | (simp; done) | (simp; omega))).trans (heap_new0 _ _))
  have HX2 := Lib.hid (show B0.heap[w.heap.size + 1]? = some (.cells #[iv t.1, .slice ou t.2.length cu] 66 (0, 0)) from by rw [hB0]; exact heap_new1 _ _ _)
  have HW0 := Lib.hid (HW.out.below HBB.out (Nat.le_refl _))
  have HT0 := Lib.hid (HT.out.below HBB.out (Nat.le_refl _))
  have HX0 := Lib.hid (HX.out.below HBB.out (Nat.le_refl _))
  have HU0 := Lib.hid (HU.out.below HBB.out (Nat.le_refl _))
  have HR0 := Lib.hid (HR.out.below HBB.out (Nat.le_refl _))
  have HB0 := Lib.hid (Below.refl B0.heap.size B0)
  clear hB0
  refine (Thin_any h _ _ _ _ (HW0.out.below HB0.out (Nat.le_refl _)) (HT0.out.below HB0.out (Nat.le_refl _)) (HX0.out.below HB0.out (Nat.le_refl _))).mono ?_
  rw [HTH.out]
  rintro e W1 ⟨rfl, hb⟩
  (try clear hc1 hs1 hc2 hs2)
  have HD1 := Lib.hid hb
  have HB1 := Lib.hid (bgo HB0.out hb)
  obtain ⟨hc1, _, hs1⟩ := cells_of_block ((HB1.out.block _ (cells_of_block HX1.out).2.2).trans HX1.out)
  obtain ⟨hc2, _, hs2⟩ := cells_of_block ((HB1.out.block _ (cells_of_block HX2.out).2.2).trans HX2.out)
  clear hb
  go_wp2_with fail
  -- Play
  refine wp_region_rg 12 [] none [(1, ⟨fun _ v => ∃ a b c, v = hv (h) a b c, fun _ v Wx => ∃ a b c, v = hv (h) a b c ∧ PairsAt Wx a (h).wet ∧ IntsAt Wx b (h).turns ∧ TriplesAt Wx c (h).readings⟩), (3, ⟨fun _ v => ∃ x, v = .agg #[iv t.1, x], fun _ v Wx => ∃ x, v = .agg #[iv t.1, x] ∧ IntsAt Wx x t.2⟩), (5, ⟨fun _ v => ∃ o c, v = .slice o (turns).length c, fun _ v Wx => IntsAt Wx v (turns)⟩), (6, ⟨fun _ v => ∃ o c, v = .tuple #[.slice o P.length c, iv E], fun _ v Wx => ∃ o c, v = .tuple #[.slice o P.length c, iv E] ∧ IntsAt Wx (.slice o P.length c) P⟩)] (by kernel_rfl) (by kernel_rfl) ?_
  simp only [List.take_succ_cons, List.take_zero, List.drop_succ_cons, List.drop_zero]
  repeat (first | (refine tree_det (by rfl) _ (by rfl) (fun W hW => by go_simp; (try simp (disch := omega) only [IntWalk.i64_in]); try rfl) ?_; simp only [Act.put, List.setIfInBounds_toArray, List.set_cons_succ, List.set_cons_zero]) | (refine tree_skip (by rfl) (by rfl) ?_; simp only [Act.put, List.setIfInBounds_toArray, List.set_cons_succ, List.set_cons_zero]))
  refine tree_some _ (by rfl) (by rfl) (by exact ⟨_, undef, undef, undef, rfl⟩) (fun W hE hF => ?_) (fun v Wa Wb ho hE => ?_) (fun v hv => ?_)
  · have hE' : Ext [] W1 W := hE
    refine does_enter 21 #[hv (h) (.slice ow h.wet.length cw) (.slice ot h.turns.length ct) (.slice ox h.readings.length cx)] (by go_simp; try first | rfl | exact ⟨rfl, rfl, rfl, rfl, rfl, rfl, rfl⟩) ?_
    refine (Heap_any (h) _ _ _ W ((HW0.out.below HB1.out (Nat.le_refl _)).below hE'.below (Nat.le_refl _)) ((HT0.out.below HB1.out (Nat.le_refl _)).below hE'.below (Nat.le_refl _)) ((HX0.out.below HB1.out (Nat.le_refl _)).below hE'.below (Nat.le_refl _)) (by show h.wet.length ≤ 1000; omega) (by show h.turns.length ≤ 1000; omega) (by show h.readings.length ≤ 1000; omega)).mono ?_
    rintro e W' ⟨a, b, c, rfl, h1, h2, h3, hb⟩
    exact ⟨_, rfl, ⟨a, b, c, rfl⟩, ⟨a, b, c, rfl, h1, h2, h3⟩, Ext.of_below hb⟩
  · obtain ⟨a, b, c, hv, h1, h2, h3⟩ := ho
    have hB := Ext.below (show Ext [] Wa Wb from hE)
    exact ⟨a, b, c, hv, h1.below hB (Nat.le_refl _), h2.below hB (Nat.le_refl _), h3.below hB (Nat.le_refl _)⟩
  obtain ⟨a2, b2, c2, rfl⟩ := hv
  simp only [Act.put, List.setIfInBounds_toArray, List.set_cons_succ, List.set_cons_zero]
  repeat (first | (refine tree_det (by rfl) _ (by rfl) (fun W hW => by go_simp; (try simp (disch := omega) only [IntWalk.i64_in]); try rfl) ?_; simp only [Act.put, List.setIfInBounds_toArray, List.set_cons_succ, List.set_cons_zero]) | (refine tree_skip (by rfl) (by rfl) ?_; simp only [Act.put, List.setIfInBounds_toArray, List.set_cons_succ, List.set_cons_zero]))
  refine tree_some _ (by rfl) (by rfl) (by exact ⟨_, undef, rfl⟩) (fun W hE hF => ?_) (fun v Wa Wb ho hE => ?_) (fun v hv => ?_)
  · have hE' : Ext [] W1 W := hE
    refine does_enter 41 #[.agg #[iv t.1, .slice ou t.2.length cu]] (by go_simp; try rfl) ?_
    refine (Truth_any t _ W ((HU0.out.below HB1.out (Nat.le_refl _)).below hE'.below (Nat.le_refl _)) (by omega)).mono ?_
    rintro e W' ⟨x, rfl, h1, hb⟩
    exact ⟨_, rfl, ⟨x, rfl⟩, ⟨x, rfl, h1⟩, Ext.of_below hb⟩
  · obtain ⟨x, hv, h1⟩ := ho
    exact ⟨x, hv, h1.below (Ext.below (show Ext [] Wa Wb from hE)) (Nat.le_refl _)⟩
  obtain ⟨u2, rfl⟩ := hv
  simp only [Act.put, List.setIfInBounds_toArray, List.set_cons_succ, List.set_cons_zero]
  repeat (first | (refine tree_det (by rfl) _ (by rfl) (fun W hW => by go_simp; (try simp (disch := omega) only [IntWalk.i64_in]); try rfl) ?_; simp only [Act.put, List.setIfInBounds_toArray, List.set_cons_succ, List.set_cons_zero]) | (refine tree_skip (by rfl) (by rfl) ?_; simp only [Act.put, List.setIfInBounds_toArray, List.set_cons_succ, List.set_cons_zero]))
  refine tree_some _ (by rfl) (by rfl) (by exact ⟨.slice none turns.length 0, none, 0, rfl⟩) (fun W hE hF => ?_) (fun v Wa Wb ho hE => SlAt.below ho (Ext.below (show Ext [] Wa Wb from hE)) (Nat.le_refl _)) (fun v hv => ?_)
  · have hE' : Ext [] W1 W := hE
    refine does_enter 22 #[.slice or' turns.length cr] (by go_simp; try rfl) ?_
    refine (list_any turns _ W ((HR0.out.below HB1.out (Nat.le_refl _)).below hE'.below (Nat.le_refl _)) (by omega)).mono ?_
    rintro e W6 ⟨v, rfl, ho, hb⟩
    exact ⟨v, rfl, owns_slice ho, SlAt.of_owns ho, Ext.of_below hb⟩
  obtain ⟨o2, k2, rfl⟩ := hv
  simp only [Act.put, List.setIfInBounds_toArray, List.set_cons_succ, List.set_cons_zero]
  refine tree_some _ (by rfl) (by rfl) (by exact ⟨_, none, 0, rfl⟩) (fun W hE hF => ?_) (fun v Wa Wb ho hE => ?_) (fun v hv => ?_)
  · have htr : IntsAt W (.slice o2 turns.length k2) turns := hF _ (List.Mem.head _) (by kernel_rfl)
    obtain ⟨u', hu1, hu2⟩ := hF _ (List.Mem.tail _ (List.Mem.head _)) (by kernel_rfl)
    obtain ⟨a', b', c', he, h1, h2, h3⟩ := hF _ (List.Mem.tail _ (List.Mem.tail _ (List.Mem.head _))) (by kernel_rfl)
    obtain ⟨rfl, rfl, rfl⟩ := hv_inj4 he
    cases hu1
    refine does_enter 40 #[hv h a2 b2 c2, .agg #[iv t.1, u2], .slice o2 turns.length k2] (by go_simp; try rfl) ?_
    refine (Play_any h _ _ _ _ _ t.1 t.2 turns W h1 h2 h3 hu2 htr).mono ?_
    rintro e W' ⟨v, rfl, hv, hb⟩
    have hv' : W'.ownsRow W.heap.size 3 1 v P.length (intCells P) := by rw [← HP.out]; exact hv
    obtain ⟨o, k, rfl⟩ := owns_slice hv'
    refine ⟨.tuple #[.slice o P.length k, iv E], by rw [← HE.out], ⟨o, k, rfl⟩, ⟨o, k, rfl, SlAt.of_owns hv'⟩, Ext.of_below hb⟩
  · obtain ⟨o, k, hv, h1⟩ := ho
    exact ⟨o, k, hv, h1.below (Ext.below (show Ext [] Wa Wb from hE)) (Nat.le_refl _)⟩
  obtain ⟨o3, k3, rfl⟩ := hv
  simp only [Act.put, List.setIfInBounds_toArray, List.set_cons_succ, List.set_cons_zero]
  repeat (first | (refine tree_det (by rfl) _ (by rfl) (fun W hW => by go_simp; (try simp (disch := omega) only [IntWalk.i64_in]); try rfl) ?_; simp only [Act.put, List.setIfInBounds_toArray, List.set_cons_succ, List.set_cons_zero]) | (refine tree_skip (by rfl) (by rfl) ?_; simp only [Act.put, List.setIfInBounds_toArray, List.set_cons_succ, List.set_cons_zero]))
  intro W2 hE hF
  obtain ⟨o', k', he, hv4⟩ := hF _ (List.Mem.head _)
  cases he
  have HV2 := Lib.hid hv4
  have hb := Ext.below (show Ext [] W1 W2 from hE)
  (try clear hc1 hs1 hc2 hs2)
  have HD2 := Lib.hid hb
  have HB2 := Lib.hid (bgo HB1.out hb)
  obtain ⟨hc1, _, hs1⟩ := cells_of_block ((HB2.out.block _ (cells_of_block HX1.out).2.2).trans HX1.out)
  obtain ⟨hc2, _, hs2⟩ := cells_of_block ((HB2.out.block _ (cells_of_block HX2.out).2.2).trans HX2.out)
  clear hb
  clear hE hF hv4
  go_wp2_with fail
  -- ProveTruth
  refine wp_region_rg 5 [] none [(1, ⟨fun _ v => ∃ a b c, v = hv (h) a b c, fun _ v Wx => ∃ a b c, v = hv (h) a b c ∧ PairsAt Wx a (h).wet ∧ IntsAt Wx b (h).turns ∧ TriplesAt Wx c (h).readings⟩), (3, ⟨fun _ v => ∃ x, v = .agg #[iv t.1, x], fun _ v Wx => ∃ x, v = .agg #[iv t.1, x] ∧ IntsAt Wx x t.2⟩), (4, Spec.val (.bool q))] (by kernel_rfl) (by kernel_rfl) ?_
  simp only [List.take_succ_cons, List.take_zero, List.drop_succ_cons, List.drop_zero]
  repeat (first | (refine tree_det (by rfl) _ (by rfl) (fun W hW => by go_simp; (try simp (disch := omega) only [IntWalk.i64_in]); try rfl) ?_; simp only [Act.put, List.setIfInBounds_toArray, List.set_cons_succ, List.set_cons_zero]) | (refine tree_skip (by rfl) (by rfl) ?_; simp only [Act.put, List.setIfInBounds_toArray, List.set_cons_succ, List.set_cons_zero]))
  refine tree_some _ (by rfl) (by rfl) (by exact ⟨_, undef, undef, undef, rfl⟩) (fun W hE hF => ?_) (fun v Wa Wb ho hE => ?_) (fun v hv => ?_)
  · have hE' : Ext [] W2 W := hE
    refine does_enter 21 #[hv (h) (.slice ow h.wet.length cw) (.slice ot h.turns.length ct) (.slice ox h.readings.length cx)] (by go_simp; try first | rfl | exact ⟨rfl, rfl, rfl, rfl, rfl, rfl, rfl⟩) ?_
    refine (Heap_any (h) _ _ _ W ((HW0.out.below HB2.out (Nat.le_refl _)).below hE'.below (Nat.le_refl _)) ((HT0.out.below HB2.out (Nat.le_refl _)).below hE'.below (Nat.le_refl _)) ((HX0.out.below HB2.out (Nat.le_refl _)).below hE'.below (Nat.le_refl _)) (by show h.wet.length ≤ 1000; omega) (by show h.turns.length ≤ 1000; omega) (by show h.readings.length ≤ 1000; omega)).mono ?_
    rintro e W' ⟨a, b, c, rfl, h1, h2, h3, hb⟩
    exact ⟨_, rfl, ⟨a, b, c, rfl⟩, ⟨a, b, c, rfl, h1, h2, h3⟩, Ext.of_below hb⟩
  · obtain ⟨a, b, c, hv, h1, h2, h3⟩ := ho
    have hB := Ext.below (show Ext [] Wa Wb from hE)
    exact ⟨a, b, c, hv, h1.below hB (Nat.le_refl _), h2.below hB (Nat.le_refl _), h3.below hB (Nat.le_refl _)⟩
  obtain ⟨a4, b4, c4, rfl⟩ := hv
  simp only [Act.put, List.setIfInBounds_toArray, List.set_cons_succ, List.set_cons_zero]
  repeat (first | (refine tree_det (by rfl) _ (by rfl) (fun W hW => by go_simp; (try simp (disch := omega) only [IntWalk.i64_in]); try rfl) ?_; simp only [Act.put, List.setIfInBounds_toArray, List.set_cons_succ, List.set_cons_zero]) | (refine tree_skip (by rfl) (by rfl) ?_; simp only [Act.put, List.setIfInBounds_toArray, List.set_cons_succ, List.set_cons_zero]))
  refine tree_some _ (by rfl) (by rfl) (by exact ⟨_, undef, rfl⟩) (fun W hE hF => ?_) (fun v Wa Wb ho hE => ?_) (fun v hv => ?_)
  · have hE' : Ext [] W2 W := hE
    refine does_enter 41 #[.agg #[iv t.1, .slice ou t.2.length cu]] (by go_simp; try rfl) ?_
    refine (Truth_any t _ W ((HU0.out.below HB2.out (Nat.le_refl _)).below hE'.below (Nat.le_refl _)) (by omega)).mono ?_
    rintro e W' ⟨x, rfl, h1, hb⟩
    exact ⟨_, rfl, ⟨x, rfl⟩, ⟨x, rfl, h1⟩, Ext.of_below hb⟩
  · obtain ⟨x, hv, h1⟩ := ho
    exact ⟨x, hv, h1.below (Ext.below (show Ext [] Wa Wb from hE)) (Nat.le_refl _)⟩
  obtain ⟨u4, rfl⟩ := hv
  simp only [Act.put, List.setIfInBounds_toArray, List.set_cons_succ, List.set_cons_zero]
  refine tree_val _ (by rfl) (by rfl) 55 #[hv h a4 b4 c4, .agg #[iv t.1, u4]] (fun W hW => by go_simp; try rfl) (fun W hE hF => ?_) ?_
  · obtain ⟨u', hu1, hu2⟩ := hF _ (List.Mem.head _) (by kernel_rfl)
    obtain ⟨a', b', c', he, h1, h2, h3⟩ := hF _ (List.Mem.tail _ (List.Mem.head _)) (by kernel_rfl)
    obtain ⟨rfl, rfl, rfl⟩ := hv_inj4 he
    cases hu1
    have := ProveTruth_any h _ _ _ _ t.1 t.2 W h1 h2 h3 hu2
    rw [show proveR h (t.1, t.2) = q from HQ.out] at this
    exact this
  simp only [Act.put, List.setIfInBounds_toArray, List.set_cons_succ, List.set_cons_zero]
  repeat (first | (refine tree_det (by rfl) _ (by rfl) (fun W hW => by go_simp; (try simp (disch := omega) only [IntWalk.i64_in]); try rfl) ?_; simp only [Act.put, List.setIfInBounds_toArray, List.set_cons_succ, List.set_cons_zero]) | (refine tree_skip (by rfl) (by rfl) ?_; simp only [Act.put, List.setIfInBounds_toArray, List.set_cons_succ, List.set_cons_zero]))
  intro W3 hE hF
  have hb := Ext.below (show Ext [] W2 W3 from hE)
  (try clear hc1 hs1 hc2 hs2)
  have HD3 := Lib.hid hb
  have HB3 := Lib.hid (bgo HB2.out hb)
  obtain ⟨hc1, _, hs1⟩ := cells_of_block ((HB3.out.block _ (cells_of_block HX1.out).2.2).trans HX1.out)
  obtain ⟨hc2, _, hs2⟩ := cells_of_block ((HB3.out.block _ (cells_of_block HX2.out).2.2).trans HX2.out)
  clear hb
  clear hE hF
  go_wp2_with fail
  -- fault
  refine (lawFault_any h _ _ _ _ (HW0.out.below HB3.out (Nat.le_refl _)) (HT0.out.below HB3.out (Nat.le_refl _)) (HX0.out.below HB3.out (Nat.le_refl _))).mono ?_
  rw [HF.out]
  rintro e W4 ⟨rfl, hb⟩
  (try clear hc1 hs1 hc2 hs2)
  have HD4 := Lib.hid hb
  have HB4 := Lib.hid (bgo HB3.out hb)
  obtain ⟨hc1, _, hs1⟩ := cells_of_block ((HB4.out.block _ (cells_of_block HX1.out).2.2).trans HX1.out)
  obtain ⟨hc2, _, hs2⟩ := cells_of_block ((HB4.out.block _ (cells_of_block HX2.out).2.2).trans HX2.out)
  clear hb
  go_wp2_with fail
  refine (Heap_any (h) _ _ _ _ (HW0.out.below HB4.out (Nat.le_refl _)) (HT0.out.below HB4.out (Nat.le_refl _)) (HX0.out.below HB4.out (Nat.le_refl _)) (by show h.wet.length ≤ 1000; omega) (by show h.turns.length ≤ 1000; omega) (by show h.readings.length ≤ 1000; omega)).mono ?_
  rintro e W5 ⟨a5, b5, c5, rfl, h1, h2, h3, hb⟩
  (try clear hc1 hs1 hc2 hs2)
  have HD5 := Lib.hid hb
  have HB5 := Lib.hid (bgo HB4.out hb)
  obtain ⟨hc1, _, hs1⟩ := cells_of_block ((HB5.out.block _ (cells_of_block HX1.out).2.2).trans HX1.out)
  obtain ⟨hc2, _, hs2⟩ := cells_of_block ((HB5.out.block _ (cells_of_block HX2.out).2.2).trans HX2.out)
  clear hb
  have HH5 := Lib.hid (And.intro h1 (And.intro h2 h3))
  clear h1 h2 h3
  go_wp2_with fail
  refine (check_any h _ _ _ _ HH5.out.1 HH5.out.2.1 HH5.out.2.2).mono ?_
  rw [HF.out]
  rintro e W6 ⟨rfl, hb⟩
  (try clear hc1 hs1 hc2 hs2)
  have HD6 := Lib.hid hb
  have HB6 := Lib.hid (bgo HB5.out hb)
  obtain ⟨hc1, _, hs1⟩ := cells_of_block ((HB6.out.block _ (cells_of_block HX1.out).2.2).trans HX1.out)
  obtain ⟨hc2, _, hs2⟩ := cells_of_block ((HB6.out.block _ (cells_of_block HX2.out).2.2).trans HX2.out)
  clear hb
  have hff : (f != f) = false := by simp
  by_cases hf0 : f = 0
  case neg =>
    have hf0b : (f == 0) = false := by simpa using hf0
    have hf0c : (f != 0) = true := by simpa using hf0
    obtain rfl : q = false := by rw [← HQ.out]; simp [proveR, HF.out, hf0]
    obtain rfl : E = f := by rw [← HE.out, wantP_eq]; unfold wantP; rw [HF.out, if_neg hf0]
    obtain rfl : P = [] := by rw [← HP.out]; unfold playOut; rw [HE.out, if_neg hf0]
    have hEE : (E == E) = true := by simp
    clear hf0
    go_wp2_with fail
    refine (awake_any _).mono ?_
    rintro e W7 ⟨rfl, hb⟩
    (try clear hc1 hs1 hc2 hs2)
    have HD7 := Lib.hid hb
    have HB7 := Lib.hid (bgo HB6.out hb)
    obtain ⟨hc1, _, hs1⟩ := cells_of_block ((HB7.out.block _ (cells_of_block HX1.out).2.2).trans HX1.out)
    obtain ⟨hc2, _, hs2⟩ := cells_of_block ((HB7.out.block _ (cells_of_block HX2.out).2.2).trans HX2.out)
    clear hb
    go_wp2_with fail
    go_returns
    exact ⟨by simp, bgo HBB.out HB7.out⟩
  subst hf0
  have hS := sound_of HF.out
  obtain rfl : q = isTruth h t := by rw [← HQ.out]; simp [proveR, HF.out]
  have HS := Lib.hid hS
  obtain ⟨q, hq⟩ : ∃ q, isTruth h t = q := ⟨_, rfl⟩
  rw [hq]
  have HIT := Lib.hid hq
  have hqq : (q != q) = false := by simp
  clear hq hS
  go_wp2_with fail
  refine (IsTruth_any h HS.out _ _ _ _ t _ (HW0.out.below HB6.out (Nat.le_refl _)) (HT0.out.below HB6.out (Nat.le_refl _)) (HX0.out.below HB6.out (Nat.le_refl _)) (HU0.out.below HB6.out (Nat.le_refl _))).mono ?_
  rw [HIT.out]
  rintro e W7 ⟨rfl, hb⟩
  (try clear hc1 hs1 hc2 hs2)
  have HD7 := Lib.hid hb
  have HB7 := Lib.hid (bgo HB6.out hb)
  obtain ⟨hc1, _, hs1⟩ := cells_of_block ((HB7.out.block _ (cells_of_block HX1.out).2.2).trans HX1.out)
  obtain ⟨hc2, _, hs2⟩ := cells_of_block ((HB7.out.block _ (cells_of_block HX2.out).2.2).trans HX2.out)
  clear hb
  go_wp2_with fail
  refine (IsListed_any h _ _ _ _ t _ (HW0.out.below HB7.out (Nat.le_refl _)) (HT0.out.below HB7.out (Nat.le_refl _)) (HX0.out.below HB7.out (Nat.le_refl _)) (HU0.out.below HB7.out (Nat.le_refl _))).mono ?_
  rw [listedB_eq HS.out.wetLen]
  cases hl : listedT h t
  case false =>
    obtain rfl : E = 2 := by rw [← HE.out, wantP_eq]; unfold wantP; rw [HF.out, hl]; simp
    obtain rfl : P = [] := by rw [← HP.out]; unfold playOut; rw [HE.out]; rfl
    have HL := Lib.hid hl
    clear hl
    rintro e W8 ⟨rfl, hb⟩
    (try clear hc1 hs1 hc2 hs2)
    have HD8 := Lib.hid hb
    have HB8 := Lib.hid (bgo HB7.out hb)
    obtain ⟨hc1, _, hs1⟩ := cells_of_block ((HB8.out.block _ (cells_of_block HX1.out).2.2).trans HX1.out)
    obtain ⟨hc2, _, hs2⟩ := cells_of_block ((HB8.out.block _ (cells_of_block HX2.out).2.2).trans HX2.out)
    clear hb
    go_wp2_with fail
    refine (awake_any _).mono ?_
    rintro e W9 ⟨rfl, hb⟩
    (try clear hc1 hs1 hc2 hs2)
    have HD9 := Lib.hid hb
    have HB9 := Lib.hid (bgo HB8.out hb)
    obtain ⟨hc1, _, hs1⟩ := cells_of_block ((HB9.out.block _ (cells_of_block HX1.out).2.2).trans HX1.out)
    obtain ⟨hc2, _, hs2⟩ := cells_of_block ((HB9.out.block _ (cells_of_block HX2.out).2.2).trans HX2.out)
    clear hb
    go_wp2_with fail
    go_returns
    exact ⟨by simp, bgo HBB.out HB9.out⟩
  have HL := Lib.hid hl
  clear hl
  rintro e W8 ⟨rfl, hb⟩
  (try clear hc1 hs1 hc2 hs2)
  have HD8 := Lib.hid hb
  have HB8 := Lib.hid (bgo HB7.out hb)
  obtain ⟨hc1, _, hs1⟩ := cells_of_block ((HB8.out.block _ (cells_of_block HX1.out).2.2).trans HX1.out)
  obtain ⟨hc2, _, hs2⟩ := cells_of_block ((HB8.out.block _ (cells_of_block HX2.out).2.2).trans HX2.out)
  clear hb
  go_wp2_with fail
  refine (IsTurns_any h _ _ _ turns _ _ (HR0.out.below HB8.out (Nat.le_refl _))).mono ?_
  cases htu : isTurns h.last turns
  case false =>
    obtain rfl : E = 2 := by rw [← HE.out, wantP_eq]; unfold wantP; rw [HF.out, htu]; simp
    obtain rfl : P = [] := by rw [← HP.out]; unfold playOut; rw [HE.out]; rfl
    have HTU := Lib.hid htu
    clear htu
    rintro e W9 ⟨rfl, hb⟩
    (try clear hc1 hs1 hc2 hs2)
    have HD9 := Lib.hid hb
    have HB9 := Lib.hid (bgo HB8.out hb)
    obtain ⟨hc1, _, hs1⟩ := cells_of_block ((HB9.out.block _ (cells_of_block HX1.out).2.2).trans HX1.out)
    obtain ⟨hc2, _, hs2⟩ := cells_of_block ((HB9.out.block _ (cells_of_block HX2.out).2.2).trans HX2.out)
    clear hb
    go_wp2_with fail
    refine (awake_any _).mono ?_
    rintro e W10 ⟨rfl, hb⟩
    (try clear hc1 hs1 hc2 hs2)
    have HD10 := Lib.hid hb
    have HB10 := Lib.hid (bgo HB9.out hb)
    obtain ⟨hc1, _, hs1⟩ := cells_of_block ((HB10.out.block _ (cells_of_block HX1.out).2.2).trans HX1.out)
    obtain ⟨hc2, _, hs2⟩ := cells_of_block ((HB10.out.block _ (cells_of_block HX2.out).2.2).trans HX2.out)
    clear hb
    go_wp2_with fail
    go_returns
    exact ⟨by simp, bgo HBB.out HB10.out⟩
  obtain rfl : E = 0 := by rw [← HE.out, wantP_eq]; unfold wantP; rw [HF.out, HL.out, htu]; simp
  obtain ⟨hl1, hl2, _⟩ := listed_of HS.out HL.out
  have hwl := HS.out.wetLen
  have hl9 := HS.out.last9
  have hl0 := HS.out.last0
  have HO := Lib.hid (heatOk_of HS.out HL.out)
  have hPl : (P.length : Int) = h.last + 1 := by
    rw [← HP.out]
    unfold playOut
    rw [HE.out, if_pos rfl, List.length_take]
    simp [heats, heatsTo]
    omega
  have hPa : ∀ i, i < P.length → P.getD i 0 = heatAt h.size h.cool turns t.1 t.2 (i + 1) := fun i hi => by
    have hi2 : (i : Int) < h.last + 1 := by omega
    rw [← HP.out]
    unfold playOut
    rw [HE.out, if_pos rfl]
    unfold heats heatsTo
    rw [← List.map_take, List.take_range]
    have hmin : min (h.last + 1).toNat 10 = (h.last + 1).toNat := by omega
    rw [hmin, getD_map_range (by omega), if_pos (by omega)]
  have hP10 : (P.length : Int) ≤ 10 := by omega
  have HPA := Lib.hid hPa
  have HPL := Lib.hid hPl
  have hPb : ((P.length : Int) != h.last + 1) = false := by simp [hPl]
  have HL1 := Lib.hid hl1
  clear htu hPa hPl hwl hl1
  rintro e W9 ⟨rfl, hb⟩
  (try clear hc1 hs1 hc2 hs2)
  have HD9 := Lib.hid hb
  have HB9 := Lib.hid (bgo HB8.out hb)
  obtain ⟨hc1, _, hs1⟩ := cells_of_block ((HB9.out.block _ (cells_of_block HX1.out).2.2).trans HX1.out)
  obtain ⟨hc2, _, hs2⟩ := cells_of_block ((HB9.out.block _ (cells_of_block HX2.out).2.2).trans HX2.out)
  clear hb
  go_wp2_with fail
  clear hc1 hs1 hc2 hs2
  go_loopw [11] (fun u wr => ∃ k : Nat, k ≤ P.length ∧ u = .int .i64 k ∧ Below W9.heap.size W9 wr) (fun u _ => P.length - (intOf u).toNat)
  case atStart => exact ⟨0, Nat.zero_le _, rfl, Below.refl _ _⟩
  case round =>
    obtain ⟨k, hk, rfl, hB⟩ := hrel
    have hBB := bgo HB9.out hB
    obtain ⟨hc1, _, hs1⟩ := cells_of_block ((hBB.block _ (cells_of_block HX1.out).2.2).trans HX1.out)
    obtain ⟨hc2, _, hs2⟩ := cells_of_block ((hBB.block _ (cells_of_block HX2.out).2.2).trans HX2.out)
    have HBB2 := Lib.hid hBB
    have hHP := ((((((((HV2.out.below HD3.out (Nat.le_refl _)).below HD4.out (Nat.le_refl _)).below HD5.out (Nat.le_refl _)).below HD6.out (Nat.le_refl _)).below HD7.out (Nat.le_refl _)).below HD8.out (Nat.le_refl _)).below HD9.out (Nat.le_refl _)).below hB (Nat.le_refl _))
    have HBR := Lib.hid hB
    clear hB hBB
    by_cases hlt' : k < P.length
    · obtain ⟨bb, off, rfl, hb1, d1⟩ := IntsAt.cell hHP hlt'
      have hltI : (k : Int) < P.length := by omega
      have g := HPA.out k hlt'
      rw [getD_lt hlt'] at g
      have hk10 : k < t.2.length ∧ k < 12 := by have := HPL.out; have := HS.out.wetLen; have := HL1.out; omega
      have HK := Lib.hid hk10
      have HG := Lib.hid g.symm
      clear hHP hk10 g
      generalize P[k] = x at *
      have hxx : (x != x) = false := by simp
      have HCL := Lib.hid (show ∀ W, Ext [] wr W → Calls Try.prog 37 #[hv h (.slice ow h.wet.length cw) (.slice ot h.turns.length ct) (.slice ox h.readings.length cx), .agg #[iv t.1, .slice ou t.2.length cu], .slice or' turns.length cr, iv (k : Int)] W (PV (iv x) W) from fun W hE => by
        have := Heat_at h t HO.out ow ot ox h.wet.length cw h.turns.length ct h.readings.length cx (.slice ou t.2.length cu) (.slice or' turns.length cr) turns k W HK.out.1 HK.out.2 ((HU0.out.below HBB2.out (Nat.le_refl _)).below hE.below (Nat.le_refl _)) ((HR0.out.below HBB2.out (Nat.le_refl _)).below hE.below (Nat.le_refl _))
        rw [HG.out] at this
        exact this)
      go_wp2_with fail
      refine wp_region_rg 10 [] none [(8, Spec.val (iv x))] (by kernel_rfl) (by kernel_rfl) ?_
      simp only [List.take_succ_cons, List.take_zero, List.drop_succ_cons, List.drop_zero]
      repeat (first | (refine tree_det (by rfl) _ (by rfl) (fun W hW => by go_simp; (try simp (disch := omega) only [IntWalk.i64_in]); try rfl) ?_; simp only [Act.put, List.setIfInBounds_toArray, List.set_cons_succ, List.set_cons_zero]) | (refine tree_skip (by rfl) (by rfl) ?_; simp only [Act.put, List.setIfInBounds_toArray, List.set_cons_succ, List.set_cons_zero]))
      refine tree_val _ (by rfl) (by rfl) 37 _ (fun W hW => by go_simp; try rfl) (fun W hE hF => ?_) ?_
      · exact HCL.out W hE
      simp only [Act.put, List.setIfInBounds_toArray, List.set_cons_succ, List.set_cons_zero]
      repeat (first | (refine tree_det (by rfl) _ (by rfl) (fun W hW => by go_simp; (try simp (disch := omega) only [IntWalk.i64_in]); try rfl) ?_; simp only [Act.put, List.setIfInBounds_toArray, List.set_cons_succ, List.set_cons_zero]) | (refine tree_skip (by rfl) (by rfl) ?_; simp only [Act.put, List.setIfInBounds_toArray, List.set_cons_succ, List.set_cons_zero]))
      intro W hE hF
      have HE' := Lib.hid (show Ext [] wr W from hE)
      clear hE hF
      go_wp2_with fail
      go_roundw
      case rel => exact ⟨k + 1, by omega, by go_num, bgo HBR.out HE'.out.below⟩
      case measure => simp [intOf]; omega
    · have hkl : k = P.length := by omega
      clear hHP
      obtain ⟨W10, rfl⟩ : ∃ W10 : World, W10 = wr := ⟨_, rfl⟩
      go_wp2_with fail
      refine (awake_any _).mono ?_
      rintro e W11 ⟨rfl, hb⟩
      have HB11 := Lib.hid (bgo HBB2.out hb)
      clear hb hc1 hs1 hc2 hs2
      go_wp2_with fail
      go_returns
      exact ⟨by simp, bgo HBB.out HB11.out⟩

end Go.Proofs.Ytoibfafmnaooaaa
