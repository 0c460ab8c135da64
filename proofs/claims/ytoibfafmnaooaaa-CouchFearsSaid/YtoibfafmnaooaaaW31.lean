/-
  awake: the chapter's examples.
-/
import Derived.WalkKit
import Derived.WalkLawsBesides
import Derived.WalkSpells
import Derived.Outline
import Derived.Handy
import Derived.KernelRfl
import Derived.Lib.Hide
import Derived.Test.YtoibfafmnaooaaaE1
namespace Go.Proofs.Ytoibfafmnaooaaa
open Go.RowKit Go.RG Go.SL Go.Shelf Cou
set_option maxHeartbeats 400000
set_option maxRecDepth 10000

/-- A list of one number, just made. -/
theorem ints_new1 (W : World) (x : Int) : IntsAt (W.alloc (.cells #[iv x] 3)) (.slice (some ⟨W.heap.size, 0, none⟩) 1 1) [x] := SlAt.of_block 1 1 (heap_new0 _ _) rfl (by decide)

set_option maxHeartbeats 4000000 in
theorem awake_any (w : World) : Calls Try.prog 19 #[] w (PV (.bool true) w) := by
  go_enter Try.func19, Try.ntmps19
  go_wp2_with fail
  refine (one_any 0 (by omega) _).mono ?_
  rintro e A1 ⟨a1, b1, c1, rfl, hw1, ht1, hx1, hb⟩
  have HA1 := Lib.hid hb
  have HS1 := Lib.hid (And.intro hw1 (And.intro ht1 hx1))
  clear hb hw1 ht1 hx1
  go_wp2_with fail
  refine (first_any _).mono ?_
  rintro e W1 ⟨v1, rfl, hv1, hb⟩
  have HB1 := Lib.hid hb
  have HV1 := Lib.hid hv1
  clear hb hv1
  go_wp2_with fail
  refine (Play_any (oneH 0) a1 b1 c1 v1 (.slice (some ⟨W1.heap.size, 0, none⟩) 1 1) 30 [10, 10, 12, 8, 10] [2] _ ((HS1.out.1.below HB1.out (Nat.le_refl _)).alloc _) ((HS1.out.2.1.below HB1.out (Nat.le_refl _)).alloc _) ((HS1.out.2.2.below HB1.out (Nat.le_refl _)).alloc _) (HV1.out.alloc _) (ints_new1 _ _)).mono ?_
  rintro e W2 ⟨l, rfl, hl, hb⟩
  rw [ev_playErr, ev_playOut] at *
  have hl' : IntsAt W2 l [40, 50, 37, 45, 55] := SlAt.of_owns hl
  obtain ⟨lo, lc, rfl⟩ := hl'.open
  replace hl' : IntsAt W2 (.slice lo 5 lc) [40, 50, 37, 45, 55] := hl'
  have HL := Lib.hid hl'
  have HB2 := Lib.hid (show Below A1.heap.size A1 W2 from bgo (bgoAlloc HB1.out _) hb)
  clear hl hl' hb
  go_wp2_with fail
  -- Bounds
  refine (one_any 0 (by omega) _).mono ?_
  rintro e A2 ⟨a2, b2, c2, rfl, hw2, ht2, hx2, hb⟩
  have HA2 := Lib.hid hb
  have HS2 := Lib.hid (And.intro hw2 (And.intro ht2 hx2))
  clear hb hw2 ht2 hx2
  go_wp2_with fail
  refine (Bounds_any (oneH 0) a2 b2 c2 (.slice none 0 0) [] _ HS2.out.1 HS2.out.2.1 HS2.out.2.2 (ints_nil _)).mono ?_
  rintro e W3 ⟨bv, rfl, hbv, hb⟩
  obtain ⟨bo, bc, rfl⟩ := SlAt.open hbv
  rw [ev_bounds.1] at *
  have HBV := Lib.hid (show PairsAt W3 (.slice bo 5 bc) (boundsOut (oneH 0) []) from by rw [← ev_bounds.1]; rw [ev_bounds.1]; exact hbv)
  rw [ev_ask0] at *
  have HB3 := Lib.hid (show Below W2.heap.size W2 W3 from bgo HA2.out hb)
  clear hb hbv
  go_wp2_with fail
  -- Keeps
  refine (one_any 0 (by omega) _).mono ?_
  rintro e A3 ⟨a3, b3, c3, rfl, hw3, ht3, hx3, hb⟩
  have HA3 := Lib.hid hb
  have HS3 := Lib.hid (And.intro hw3 (And.intro ht3 hx3))
  clear hb hw3 ht3 hx3
  go_wp2_with fail
  refine (Keeps_any (oneH 0) a3 b3 c3 (.slice (some ⟨A3.heap.size, 0, none⟩) 1 1) [1] _ (HS3.out.1.alloc _) (HS3.out.2.1.alloc _) (HS3.out.2.2.alloc _) (ints_new1 _ _)).mono ?_
  rintro e W4 ⟨rfl, hb⟩
  rw [ev_keeps, ev_ask1] at *
  have HB4 := Lib.hid (show Below W3.heap.size W3 W4 from bgo (bgoAlloc HA3.out _) hb)
  clear hb
  go_wp2_with fail
  -- Keeps
  refine (one_any 1 (by omega) _).mono ?_
  rintro e A4 ⟨a4, b4, c4, rfl, hw4, ht4, hx4, hb⟩
  have HA4 := Lib.hid hb
  have HS4 := Lib.hid (And.intro hw4 (And.intro ht4 hx4))
  clear hb hw4 ht4 hx4
  go_wp2_with fail
  refine (Keeps_any (oneH 1) a4 b4 c4 (.slice (some ⟨A4.heap.size, 0, none⟩) 1 1) [1] _ (HS4.out.1.alloc _) (HS4.out.2.1.alloc _) (HS4.out.2.2.alloc _) (ints_new1 _ _)).mono ?_
  rintro e W5 ⟨rfl, hb⟩
  rw [ev_keeps1, ev_ask2] at *
  have HB5 := Lib.hid (show Below W4.heap.size W4 W5 from bgo (bgoAlloc HA4.out _) hb)
  clear hb
  go_wp2_with fail
  -- Fear
  refine (one_any 0 (by omega) _).mono ?_
  rintro e A5 ⟨a5, b5, c5, rfl, hw5, ht5, hx5, hb⟩
  have HA5 := Lib.hid hb
  have HS5 := Lib.hid (And.intro hw5 (And.intro ht5 hx5))
  clear hb hw5 ht5 hx5
  go_wp2_with fail
  refine (Fear_any (oneH 0) a5 b5 c5 (.slice (some ⟨A5.heap.size, 0, none⟩) 1 1) [1] _ (HS5.out.1.alloc _) (HS5.out.2.1.alloc _) (HS5.out.2.2.alloc _) (ints_new1 _ _)).mono ?_
  rintro e W6 ⟨rfl, hb⟩
  rw [ev_fear.1, ev_fear.2] at *
  have HB6 := Lib.hid (show Below W5.heap.size W5 W6 from bgo (bgoAlloc HA5.out _) hb)
  clear hb
  have hd6 : (W6.alloc (.cells #[iv 4, .bool true, .bool false] 32)).heap[W6.heap.size]? = some (.cells #[iv 4, .bool true, .bool false] 32 (0, 0)) := heap_new0 _ _
  have HD6 := Lib.hid hd6
  clear hd6
  go_wp2_with fail
  -- Fewest
  refine (one_any 0 (by omega) _).mono ?_
  rintro e A6 ⟨a6, b6, c6, rfl, hw6, ht6, hx6, hb⟩
  have HA6 := Lib.hid hb
  have HS6 := Lib.hid (And.intro hw6 (And.intro ht6 hx6))
  clear hb hw6 ht6 hx6
  go_wp2_with fail
  refine (Fewest_any (oneH 0) a6 b6 c6 _ HS6.out.1 HS6.out.2.1 HS6.out.2.2).mono ?_
  rintro e W7 ⟨xv, rfl, hxv, hb⟩
  rw [ev_few.1, ev_few.2] at *
  obtain ⟨xo, xc, rfl⟩ := SlAt.open hxv
  replace hxv : IntsAt W7 (.slice xo 1 xc) [2] := hxv
  have HXV := Lib.hid hxv
  have HB7 := Lib.hid (show Below (W6.alloc (.cells #[iv 4, .bool true, .bool false] 32)).heap.size (W6.alloc (.cells #[iv 4, .bool true, .bool false] 32)) W7 from bgo HA6.out hb)
  clear hb hxv
  go_wp2_with fail
  -- First
  refine (one_any 2 (by omega) _).mono ?_
  rintro e A7 ⟨a7, b7, c7, rfl, hw7, ht7, hx7, hb⟩
  have HA7 := Lib.hid hb
  have HS7 := Lib.hid (And.intro hw7 (And.intro ht7 hx7))
  clear hb hw7 ht7 hx7
  go_wp2_with fail
  refine (First_any (oneH 2) a7 b7 c7 _ HS7.out.1 HS7.out.2.1 HS7.out.2.2).mono ?_
  rintro e W8 ⟨rfl, hb⟩
  rw [ev_first.1, ev_first.2] at *
  have HB8 := Lib.hid (show Below W7.heap.size W7 W8 from bgo HA7.out hb)
  clear hb
  go_wp2_with fail
  -- Leave
  refine (one_any 2 (by omega) _).mono ?_
  rintro e A8 ⟨a8, b8, c8, rfl, hw8, ht8, hx8, hb⟩
  have HA8 := Lib.hid hb
  have HS8 := Lib.hid (And.intro hw8 (And.intro ht8 hx8))
  clear hb hw8 ht8 hx8
  go_wp2_with fail
  refine (Leave_any (oneH 2) a8 b8 c8 _ HS8.out.1 HS8.out.2.1 HS8.out.2.2).mono ?_
  rintro e W9 ⟨ov, rfl, hov, hb⟩
  rw [ev_leave.1, ev_leave.2] at *
  obtain ⟨oo, oc, rfl⟩ := SlAt.open hov
  replace hov : IntsAt W9 (.slice oo 1 oc) [0] := hov
  have HOV := Lib.hid hov
  have HB9 := Lib.hid (show Below W8.heap.size W8 W9 from bgo HA8.out hb)
  clear hb hov
  have h79 := bgo HB8.out HB9.out
  have h69 := bgo HB7.out h79
  have h59 := bgo (show Below W5.heap.size W5 (W6.alloc (.cells #[iv 4, .bool true, .bool false] 32)) from bgoAlloc HB6.out _) h69
  have h39 := bgo HB4.out (bgo HB5.out h59)
  have h29 := bgo HB3.out h39
  have h09 := bgo HA1.out (bgo HB2.out h29)
  have hL := HL.out.below h29 (Nat.le_refl _)
  have hBV := HBV.out.below h39 (Nat.le_refl _)
  have hXV := HXV.out.below h79 (Nat.le_refl _)
  have hD := (h69.block W6.heap.size (by simp)).trans HD6.out
  have hlen : (boundsOut (oneH 0) []).length = 5 := ev_bounds.1
  have hBV5 : SlAt 2 W9 (.slice bo 5 bc) 5 (pairCells (boundsOut (oneH 0) [])) := by
    have := hBV
    unfold PairsAt at this
    rw [hlen] at this
    exact this
  obtain ⟨bb, boff, rfl, hbb, p0, p1⟩ := PairsAt.cell hBV5 (k := 3) (by rw [hlen]; omega)
  have hgd : (boundsOut (oneH 0) [])[3]'(by rw [hlen]; omega) = (70, 75) := by have := ev_bounds.2; simpa [List.getD, hlen] using this
  rw [hgd] at p0 p1
  have hgD : ∀ i, W9.cell? ⟨W6.heap.size, i, none⟩ = (#[iv 4, .bool true, .bool false] : Array Value)[i]? := fun i => by
    simp only [World.cell?, hD]; rfl
  have sD := (Array.getElem?_eq_some_iff.1 hD).1
  have HF := Lib.hid (And.intro hL (And.intro hXV h09))
  clear h79 h69 h59 h39 h29 h09 hL hBV hXV hD hgd hlen hBV5 HA1 HA2 HA3 HA4 HA5 HA6 HA7 HA8 HS1 HS2 HS3 HS4 HS5 HS6 HS7 HS8 HL HB2 HBV HB3 HB4 HB5 HB6 HB7 HB8 HB9 HV1 HB1 HD6 HXV
  go_wp2_with fail
  simp only [List.append_eq, List.cons_append, List.nil_append]
  refine wp_region_rg 74 [] none [(4, Spec.slice W9.heap.size #[iv 40, iv 50, iv 37, iv 45, iv 55] 3 5), (5, Spec.val (.bool true)), (20, Spec.val (rv (70, 75))), (54, Spec.slice W9.heap.size #[iv 2] 3 1), (55, Spec.val (.bool true)), (71, Spec.slice W9.heap.size #[iv 0] 3 1), (72, Spec.val (.bool true))] (by kernel_rfl) (by kernel_rfl) ?_
  simp only [List.take_succ_cons, List.take_zero, List.drop_succ_cons, List.drop_zero]
  repeat (first | (refine tree_det (by rfl) _ (by rfl) (fun W hW => by go_simp; (try simp (disch := omega) only [IntWalk.i64_in, Int.tdiv_eq_ediv_of_nonneg]); try rfl) ?_; simp only [Act.put, List.setIfInBounds_toArray, List.set_cons_succ, List.set_cons_zero]) | (refine tree_skip (by rfl) (by rfl) ?_; simp only [Act.put, List.setIfInBounds_toArray, List.set_cons_succ, List.set_cons_zero]))
  refine tree_slice W9.heap.size _ _ _ (by rfl) (Nat.le_refl _) (by rfl) (by simp) (by simp) (fun W hW => by go_simp; try rfl) (fun bx => ?_)
  simp only [Act.put, List.setIfInBounds_toArray, List.set_cons_succ, List.set_cons_zero]
  refine tree_val (.bool true) (by rfl) (by rfl) 30 _ (fun W hW => by go_simp; try rfl) (fun W hE hF => ?_) ?_
  · obtain ⟨cb, hcb, hB, hc⟩ := hF _ (List.Mem.head _) (by kernel_rfl)
    cases hcb
    have hE' : Ext [] W9 W := hE
    have hu : IntsAt W (.slice (some ⟨bx, 0, none⟩) 5 5) [40, 50, 37, 45, 55] := SlAt.of_block 1 5 hc rfl (by decide)
    refine (ints_any [40, 50, 37, 45, 55] [40, 50, 37, 45, 55] _ _ W (SlAt.below HF.out.1 hE'.below (Nat.le_refl _)) hu).mono ?_
    rintro e W' ⟨rfl, hb⟩
    exact ⟨by rw [beq_self_eq_true], hb⟩
  simp only [Act.put, List.setIfInBounds_toArray, List.set_cons_succ, List.set_cons_zero]
  repeat (first | (refine tree_det (by rfl) _ (by rfl) (fun W hW => by go_simp; (try simp (disch := omega) only [IntWalk.i64_in, Int.tdiv_eq_ediv_of_nonneg]); try rfl) ?_; simp only [Act.put, List.setIfInBounds_toArray, List.set_cons_succ, List.set_cons_zero]) | (refine tree_skip (by rfl) (by rfl) ?_; simp only [Act.put, List.setIfInBounds_toArray, List.set_cons_succ, List.set_cons_zero]))
  refine tree_val _ (by rfl) (by rfl) 63 _ (fun W hW => by go_simp; try rfl) (fun W hE hF => by exact between_any 70 75 W) ?_
  simp only [Act.put, List.setIfInBounds_toArray, List.set_cons_succ, List.set_cons_zero]
  repeat (first | (refine tree_det (by rfl) _ (by rfl) (fun W hW => by go_simp; (try simp (disch := omega) only [IntWalk.i64_in, Int.tdiv_eq_ediv_of_nonneg]); try rfl) ?_; simp only [Act.put, List.setIfInBounds_toArray, List.set_cons_succ, List.set_cons_zero]) | (refine tree_skip (by rfl) (by rfl) ?_; simp only [Act.put, List.setIfInBounds_toArray, List.set_cons_succ, List.set_cons_zero]))
  refine tree_slice W9.heap.size _ _ _ (by rfl) (Nat.le_refl _) (by rfl) (by simp) (by simp) (fun W hW => by go_simp; try rfl) (fun bx => ?_)
  simp only [Act.put, List.setIfInBounds_toArray, List.set_cons_succ, List.set_cons_zero]
  refine tree_val (.bool true) (by rfl) (by rfl) 30 _ (fun W hW => by go_simp; try rfl) (fun W hE hF => ?_) ?_
  · obtain ⟨cb, hcb, hB, hc⟩ := hF _ (List.Mem.head _) (by kernel_rfl)
    cases hcb
    have hE' : Ext [] W9 W := hE
    have hu : IntsAt W (.slice (some ⟨bx, 0, none⟩) 1 1) [2] := SlAt.of_block 1 1 hc rfl (by decide)
    refine (ints_any [2] [2] _ _ W (SlAt.below HF.out.2.1 hE'.below (Nat.le_refl _)) hu).mono ?_
    rintro e W' ⟨rfl, hb⟩
    exact ⟨by rw [beq_self_eq_true], hb⟩
  simp only [Act.put, List.setIfInBounds_toArray, List.set_cons_succ, List.set_cons_zero]
  repeat (first | (refine tree_det (by rfl) _ (by rfl) (fun W hW => by go_simp; (try simp (disch := omega) only [IntWalk.i64_in, Int.tdiv_eq_ediv_of_nonneg]); try rfl) ?_; simp only [Act.put, List.setIfInBounds_toArray, List.set_cons_succ, List.set_cons_zero]) | (refine tree_skip (by rfl) (by rfl) ?_; simp only [Act.put, List.setIfInBounds_toArray, List.set_cons_succ, List.set_cons_zero]))
  refine tree_slice W9.heap.size _ _ _ (by rfl) (Nat.le_refl _) (by rfl) (by simp) (by simp) (fun W hW => by go_simp; try rfl) (fun bx => ?_)
  simp only [Act.put, List.setIfInBounds_toArray, List.set_cons_succ, List.set_cons_zero]
  refine tree_val (.bool true) (by rfl) (by rfl) 30 _ (fun W hW => by go_simp; try rfl) (fun W hE hF => ?_) ?_
  · obtain ⟨cb, hcb, hB, hc⟩ := hF _ (List.Mem.head _) (by kernel_rfl)
    cases hcb
    have hE' : Ext [] W9 W := hE
    have hu : IntsAt W (.slice (some ⟨bx, 0, none⟩) 1 1) [0] := SlAt.of_block 1 1 hc rfl (by decide)
    refine (ints_any [0] [0] _ _ W (SlAt.below HOV.out hE'.below (Nat.le_refl _)) hu).mono ?_
    rintro e W' ⟨rfl, hb⟩
    exact ⟨by rw [beq_self_eq_true], hb⟩
  simp only [Act.put, List.setIfInBounds_toArray, List.set_cons_succ, List.set_cons_zero]
  repeat (first | (refine tree_det (by rfl) _ (by rfl) (fun W hW => by go_simp; (try simp (disch := omega) only [IntWalk.i64_in, Int.tdiv_eq_ediv_of_nonneg]); try rfl) ?_; simp only [Act.put, List.setIfInBounds_toArray, List.set_cons_succ, List.set_cons_zero]) | (refine tree_skip (by rfl) (by rfl) ?_; simp only [Act.put, List.setIfInBounds_toArray, List.set_cons_succ, List.set_cons_zero]))
  intro W hE hF
  have hE' : Ext [] W9 W := hE
  have HE := Lib.hid hE'.below
  clear hE hF hE'
  go_wp2_with fail
  go_returns
  exact ⟨by simp, bgo HF.out.2.2 HE.out⟩

end Go.Proofs.Ytoibfafmnaooaaa
