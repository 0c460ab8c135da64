/-
  The walk of CouchOwn: whatever the heap, the truth's number, the hour and the error, it returns true; nothing that was there has turned.
-/
import Derived.WalkKit
import Derived.WalkLawsBesides
import Derived.WalkSpells
import Derived.Outline
import Derived.Handy
import Derived.KernelRfl
import Derived.Lib.Hide
import Derived.Test.YtoibfafmnaooaaaSG
import Derived.Test.YtoibfafmnaooaaaMG
namespace Go.Proofs.Ytoibfafmnaooaaa
open Go.RowKit Go.RG Go.SL Go.Shelf Cou
set_option maxHeartbeats 400000
set_option maxRecDepth 10000

theorem owns_ne12 {W : World} {base s n b : Nat} {e t : TypeId} {v : Value} {xs : List Value} {cs : Array Value} (h : W.ownsRow base e s v n xs) (hb : W.heap[b]? = some (.cells cs t (0, 0))) (hne : e ≠ t) : v.ownBlock ≠ some b := by
  intro hv
  obtain ⟨_, ⟨rfl, _⟩ | ⟨g, c, cur, rfl, _, hg, _⟩⟩ := h
  · cases hv
  · have : g = b := by simpa [Value.ownBlock] using hv
    subst this
    rw [hg] at hb
    simp only [Option.some.injEq, Obj.cells.injEq] at hb
    exact hne hb.2.1

set_option maxHeartbeats 4000000 in
theorem CouchOwn_any (h : HeapD) (wv tv xv' : Value) (wh hr off : Nat) (w : World) (hw : PairsAt w wv h.wet) (ht : IntsAt w tv h.turns) (hx : TriplesAt w xv' h.readings) (hwh : (wh : Int) ≤ 65535) (hhr : (hr : Int) ≤ 255) (hof : (off : Int) ≤ 255) :
    Calls Try.prog 16 #[hv h wv tv xv', .int .u16 wh, .int .u8 hr, .int .u8 off] w (PV (.bool true) w) := by
  obtain ⟨ow, cw, rfl⟩ := hw.open
  obtain ⟨ot, ct, rfl⟩ := ht.open
  obtain ⟨ox, cx, rfl⟩ := hx.open
  have HW := Lib.hid hw
  have HT := Lib.hid ht
  have HX := Lib.hid hx
  clear hw ht hx
  have HB0 := Lib.hid (Below.refl (w.alloc (.cells #[.int .i64 h.last, .int .i64 h.size, .int .i64 h.cool, .int .i64 h.die, .int .i64 h.burn, .int .i64 h.start.1, .int .i64 h.start.2, .slice ow h.wet.length cw, .slice ot h.turns.length ct, .slice ox h.readings.length cx] 28)).heap.size (w.alloc (.cells #[.int .i64 h.last, .int .i64 h.size, .int .i64 h.cool, .int .i64 h.die, .int .i64 h.burn, .int .i64 h.start.1, .int .i64 h.start.2, .slice ow h.wet.length cw, .slice ot h.turns.length ct, .slice ox h.readings.length cx] 28)))
  cases hry : readyB h
  case false =>
    have HR := Lib.hid hry
    clear hry
    go_enter Try.func16, Try.ntmps16
    go_wp2_with fail
    refine (ready_any h _ _ _ _ ((HW.out.alloc _).below HB0.out (Nat.le_refl _)) ((HT.out.alloc _).below HB0.out (Nat.le_refl _)) ((HX.out.alloc _).below HB0.out (Nat.le_refl _))).mono ?_
    rw [HR.out]
    rintro e W1 ⟨rfl, hb⟩
    (try clear hcr hsr)
    have HD1 := Lib.hid hb
    have HB1 := Lib.hid (bgo HB0.out hb)
    obtain ⟨hcr, _, hsr⟩ := cells_of_block ((HB1.out.block w.heap.size (by simp)).trans (heap_new0 w _))
    clear hb
    go_wp2_with fail
    refine (awake_any _).mono ?_
    rintro e W2 ⟨rfl, hb⟩
    (try clear hcr hsr)
    have HD2 := Lib.hid hb
    have HB2 := Lib.hid (bgo HB1.out hb)
    obtain ⟨hcr, _, hsr⟩ := cells_of_block ((HB2.out.block w.heap.size (by simp)).trans (heap_new0 w _))
    clear hb
    go_wp2_with fail
    go_returns
    exact ⟨by simp, bgo (bgoAlloc (Below.refl _ _) _) HB2.out⟩
  obtain ⟨hS, hf0, hm100, hl12⟩ := ready_sound hry
  have hw10 : h.wet.length ≤ 10 := by have := hS.wetLen; have := hS.last9; omega
  have hx5 := hS.rdgs
  have hl0 := hS.last0
  have hl9 := hS.last9
  have HR := Lib.hid hry
  have HS := Lib.hid hS
  by_cases h4 : 4 < h.readings.length
  case pos =>
    have h4I : (4 : Int) < h.readings.length := by omega
    clear hry hS hf0 hm100
    go_enter Try.func16, Try.ntmps16
    go_wp2_with fail
    refine (ready_any h _ _ _ _ ((HW.out.alloc _).below HB0.out (Nat.le_refl _)) ((HT.out.alloc _).below HB0.out (Nat.le_refl _)) ((HX.out.alloc _).below HB0.out (Nat.le_refl _))).mono ?_
    rw [HR.out]
    rintro e W1 ⟨rfl, hb⟩
    (try clear hcr hsr)
    have HD1 := Lib.hid hb
    have HB1 := Lib.hid (bgo HB0.out hb)
    obtain ⟨hcr, _, hsr⟩ := cells_of_block ((HB1.out.block w.heap.size (by simp)).trans (heap_new0 w _))
    clear hb
    go_wp2_with fail
    refine (awake_any _).mono ?_
    rintro e W2 ⟨rfl, hb⟩
    (try clear hcr hsr)
    have HD2 := Lib.hid hb
    have HB2 := Lib.hid (bgo HB1.out hb)
    obtain ⟨hcr, _, hsr⟩ := cells_of_block ((HB2.out.block w.heap.size (by simp)).trans (heap_new0 w _))
    clear hb
    go_wp2_with fail
    go_returns
    exact ⟨by simp, bgo (bgoAlloc (Below.refl _ _) _) HB2.out⟩
  have h4I : ¬ (4 : Int) < h.readings.length := by omega
  obtain ⟨_, hM1, _⟩ := manyL_sound hS
  obtain ⟨M, hM⟩ : ∃ M, manyL h = M := ⟨_, rfl⟩
  have HM := Lib.hid hM
  rw [hM] at hM1 hm100
  have hMz : ¬ M = 0 := by omega
  obtain ⟨n, hn⟩ : ∃ n, (wh : Int) % M = n := ⟨_, rfl⟩
  have hn0 : 0 ≤ n := by rw [← hn]; exact Int.emod_nonneg _ (by omega)
  have hn1 : n ≤ 100 := by have := Int.emod_lt_of_pos (wh : Int) (show 0 < M by omega); omega
  obtain ⟨K, hK⟩ : ∃ K : Nat, (hr : Int) % (h.last + 1) = K := Int.eq_ofNat_of_zero_le (Int.emod_nonneg _ (by omega))
  have hKl : (K : Int) ≤ h.last := by have := Int.emod_lt_of_pos (hr : Int) (show 0 < h.last + 1 by omega); omega
  have hnz : ¬ h.last + 1 = 0 := by omega
  obtain ⟨t, ht⟩ : ∃ t, nthT h n = t := ⟨_, rfl⟩
  have hlt : listedT h t = true := by rw [← ht]; exact nthT_listed hS n
  have HT0 := Lib.hid ht
  have htl := (listed_of hS hlt).1
  have htl10 : t.2.length ≤ 10 := by omega
  obtain ⟨pe, pl, _⟩ := play_okL hS hlt hS.turns
  obtain ⟨P, hP⟩ : ∃ P, P = playOut h t h.turns := ⟨_, rfl⟩
  rw [← hP] at pl
  have HP := Lib.hid (And.intro hP.symm pe)
  have hpl : (P.length : Int) = h.last + 1 := by omega
  have hplI : ((P.length : Int) != h.last + 1) = false := by rw [hpl]; simp
  have hKP : K < P.length := by omega
  have HTL := Lib.hid htl
  obtain ⟨D, hD⟩ : ∃ D, (off : Int) % 51 = D := ⟨_, rfl⟩
  have hD0 : 0 ≤ D ∧ D ≤ 50 := by omega
  clear hry hS hf0 hM ht htl hP pe pl hpl
  go_enter Try.func16, Try.ntmps16
  go_wp2_with fail
  refine (ready_any h _ _ _ _ ((HW.out.alloc _).below HB0.out (Nat.le_refl _)) ((HT.out.alloc _).below HB0.out (Nat.le_refl _)) ((HX.out.alloc _).below HB0.out (Nat.le_refl _))).mono ?_
  rw [HR.out]
  rintro e W1 ⟨rfl, hb⟩
  (try clear hcr hsr)
  have HD1 := Lib.hid hb
  have HB1 := Lib.hid (bgo HB0.out hb)
  obtain ⟨hcr, _, hsr⟩ := cells_of_block ((HB1.out.block w.heap.size (by simp)).trans (heap_new0 w _))
  clear hb
  go_wp2_with fail
  refine wp_region_rg 8 [] none [(4, Spec.val (iv M)), (6, ⟨fun _ v => ∃ o c, v = .agg #[iv t.1, .slice o t.2.length c], fun _ v Wx => ∃ o c, v = .agg #[iv t.1, .slice o t.2.length c] ∧ Wx.ownsRow W1.heap.size 3 1 (.slice o t.2.length c) t.2.length (intCells t.2)⟩), (7, Spec.block W1.heap.size #[iv 0, .slice none 0 0] 66)] (by kernel_rfl) (by kernel_rfl) ?_
  simp only [List.take_succ_cons, List.take_zero, List.drop_succ_cons, List.drop_zero]
  repeat (first | (refine tree_det (by rfl) _ (by rfl) (fun W hW => by go_simp; (try simp (disch := omega) only [IntWalk.i64_in]); try rfl) ?_; simp only [Act.put, List.setIfInBounds_toArray, List.set_cons_succ, List.set_cons_zero]) | (refine tree_skip (by rfl) (by rfl) ?_; simp only [Act.put, List.setIfInBounds_toArray, List.set_cons_succ, List.set_cons_zero]))
  refine tree_val _ (by rfl) (by rfl) 39 _ (fun W hW => by go_simp; try rfl) (fun W hE hF => by exact by have := Many_any h (.slice ow h.wet.length cw) (.slice ot h.turns.length ct) (.slice ox h.readings.length cx) W ((((HW.out.alloc _).below HB1.out (Nat.le_refl _))).below (Ext.below (show Ext [] W1 W from hE)) (Nat.le_refl _)) HS.out.ranges; rw [HM.out] at this; exact this) ?_
  simp only [Act.put, List.setIfInBounds_toArray, List.set_cons_succ, List.set_cons_zero]
  repeat (first | (refine tree_det (by rfl) _ (by rfl) (fun W hW => by go_simp; (try simp (disch := omega) only [Int.tmod_eq_emod_of_nonneg]); try rfl) ?_; simp only [Act.put, List.setIfInBounds_toArray, List.set_cons_succ, List.set_cons_zero]) | (refine tree_skip (by rfl) (by rfl) ?_; simp only [Act.put, List.setIfInBounds_toArray, List.set_cons_succ, List.set_cons_zero]))
  refine tree_some _ (by rfl) (by rfl) (by exact ⟨_, none, 0, rfl⟩) (fun W hE hF => ?_) (fun v Wa Wb ho hE => ?_) (fun v hv => ?_)
  · have hE' : Ext [] W1 W := hE
    refine does_enter 38 #[hv h (.slice ow h.wet.length cw) (.slice ot h.turns.length ct) (.slice ox h.readings.length cx), iv ((wh : Int) % M)] (by go_simp; try rfl) ?_
    rw [hn]
    refine (Nth_any h _ ot ox h.turns.length ct h.readings.length cx n W ((((HW.out.alloc _).below HB1.out (Nat.le_refl _))).below hE'.below (Nat.le_refl _)) HS.out.ranges hn0 (by omega) (by omega)).mono ?_
    rw [HT0.out]
    rintro e W6 ⟨v, rfl, ho, hb⟩
    obtain ⟨o, c, rfl⟩ := owns_slice ho
    exact ⟨_, rfl, ⟨o, c, rfl⟩, ⟨o, c, rfl, owns_base ho hE'.size⟩, Ext.of_below hb⟩
  · obtain ⟨o, c, hv, h1⟩ := ho
    exact ⟨o, c, hv, owns_ext (Ms := []) h1 hE (by simp)⟩
  obtain ⟨ou, cu, rfl⟩ := hv
  simp only [Act.put, List.setIfInBounds_toArray, List.set_cons_succ, List.set_cons_zero]
  refine tree_block W1.heap.size _ _ (by rfl) (Nat.le_refl _) (by rfl) (by simp) (by simp) (fun W hW => by go_simp; try rfl) (fun bt => ?_)
  simp only [Act.put, List.setIfInBounds_toArray, List.set_cons_succ, List.set_cons_zero]
  intro W2 hE hF
  obtain ⟨b5', hb5, hbB, hblk⟩ := hF _ (List.Mem.head _)
  cases hb5
  obtain ⟨o', c', he, hvt⟩ := hF _ (List.Mem.tail _ (List.Mem.head _))
  cases he
  have hb := Ext.below (show Ext [] W1 W2 from hE)
  (try clear hcr hsr)
  have HD2 := Lib.hid hb
  have HB2 := Lib.hid (bgo HB1.out hb)
  obtain ⟨hcr, _, hsr⟩ := cells_of_block ((HB2.out.block w.heap.size (by simp)).trans (heap_new0 w _))
  clear hb
  obtain ⟨hc5, _, hs5⟩ := cells_of_block hblk
  have HBLK := Lib.hid hblk
  have HVT := Lib.hid hvt
  clear hE hF hblk hvt
  have hz1 : w.heap.size < W1.heap.size := by have := HB1.out.size; simp only [World.size_alloc] at this; omega
  have hne1 : w.heap.size ≠ bt := by omega
  have hne2 : bt ≠ w.heap.size := by omega
  go_wp2_with fail
  refine gworld fun W3 hW3 => ?_
  have hb : Below W1.heap.size W1 W3 := by rw [hW3]; exact bgoSet (bgoSet HD2.out (by show W1.heap.size ≤ bt; omega) _) (by show W1.heap.size ≤ bt; omega) _
  have HTB3 := Lib.hid (show W3.heap[bt]? = some (.cells #[iv t.1, .slice ou t.2.length cu] 66 (0, 0)) from by rw [hW3]; exact set_block (set_block HBLK.out _) _)
  have hnt := owns_ne12 HVT.out HBLK.out (by decide)
  have HVT3 : Hid (W3.ownsRow W1.heap.size 3 1 (.slice ou t.2.length cu) t.2.length (intCells t.2)) := Lib.hid (by
    rw [hW3]
    exact owns_ext' (owns_ext' HVT.out (ext_set _ _ _) (by simpa using hnt)) (ext_set _ _ _) (by simpa using hnt))
  clear hW3 hc5 hs5 HBLK HVT hnt
  (try clear hcr hsr)
  have HD3 := Lib.hid hb
  have HB3 := Lib.hid (bgo HB1.out hb)
  obtain ⟨hcr, _, hsr⟩ := cells_of_block ((HB3.out.block w.heap.size (by simp)).trans (heap_new0 w _))
  clear hb
  obtain ⟨hct, _, hst⟩ := cells_of_block HTB3.out
  rw [hK]
  have HVI3 : Hid (IntsAt W3 (.slice ou t.2.length cu) t.2) := Lib.hid (SlAt.of_owns HVT3.out)
  refine wp_region_rg 13 [] none [(1, ⟨fun _ v => ∃ a b c, v = hv (h) a b c, fun _ v Wx => ∃ a b c, v = hv (h) a b c ∧ PairsAt Wx a (h).wet ∧ IntsAt Wx b (h).turns ∧ TriplesAt Wx c (h).readings⟩), (3, ⟨fun _ v => ∃ x, v = .agg #[iv (t.1), x], fun _ v Wx => ∃ x, v = .agg #[iv (t.1), x] ∧ IntsAt Wx x (t.2)⟩), (6, ⟨fun _ v => ∃ o c, v = .slice o (h.turns).length c, fun _ v Wx => IntsAt Wx v (h.turns)⟩), (7, ⟨fun _ v => ∃ o c, v = .tuple #[.slice o (P).length c, iv 0], fun _ v Wx => ∃ o c, v = .tuple #[.slice o (P).length c, iv 0] ∧ IntsAt Wx (.slice o (P).length c) (P)⟩)] (by kernel_rfl) (by kernel_rfl) ?_
  simp only [List.take_succ_cons, List.take_zero, List.drop_succ_cons, List.drop_zero]
  repeat (first | (refine tree_det (by rfl) _ (by rfl) (fun W hW => by go_simp; try rfl) ?_; simp only [Act.put, List.setIfInBounds_toArray, List.set_cons_succ, List.set_cons_zero]) | (refine tree_skip (by rfl) (by rfl) ?_; simp only [Act.put, List.setIfInBounds_toArray, List.set_cons_succ, List.set_cons_zero]))
  refine tree_some _ (by rfl) (by rfl) (by exact ⟨_, undef, undef, undef, rfl⟩) (fun W hE hF => ?_) (fun v Wa Wb ho hE => ?_) (fun v hv => ?_)
  · have hE' : Ext [] W3 W := hE
    refine does_enter 21 #[hv h (.slice ow h.wet.length cw) (.slice ot h.turns.length ct) (.slice ox h.readings.length cx)] (by go_simp; try first | rfl | exact ⟨rfl, rfl, rfl, rfl, rfl, rfl, rfl⟩) ?_
    refine (Heap_any h _ _ _ W ((((HW.out.alloc _).below HB3.out (Nat.le_refl _))).below hE'.below (Nat.le_refl _)) ((((HT.out.alloc _).below HB3.out (Nat.le_refl _))).below hE'.below (Nat.le_refl _)) ((((HX.out.alloc _).below HB3.out (Nat.le_refl _))).below hE'.below (Nat.le_refl _)) (by omega) (by omega) (by omega)).mono ?_
    rintro e W' ⟨a, b, c, rfl, h1, h2, h3, hb⟩
    exact ⟨_, rfl, ⟨a, b, c, rfl⟩, ⟨a, b, c, rfl, h1, h2, h3⟩, Ext.of_below hb⟩
  · obtain ⟨a, b, c, hv, h1, h2, h3⟩ := ho
    have hB := Ext.below (show Ext [] Wa Wb from hE)
    exact ⟨a, b, c, hv, h1.below hB (Nat.le_refl _), h2.below hB (Nat.le_refl _), h3.below hB (Nat.le_refl _)⟩
  obtain ⟨a4, b4, c4, rfl⟩ := hv
  simp only [Act.put, List.setIfInBounds_toArray, List.set_cons_succ, List.set_cons_zero]
  repeat (first | (refine tree_det (by rfl) _ (by rfl) (fun W hW => by go_simp; try rfl) ?_; simp only [Act.put, List.setIfInBounds_toArray, List.set_cons_succ, List.set_cons_zero]) | (refine tree_skip (by rfl) (by rfl) ?_; simp only [Act.put, List.setIfInBounds_toArray, List.set_cons_succ, List.set_cons_zero]))
  refine tree_some _ (by rfl) (by rfl) (by exact ⟨_, undef, rfl⟩) (fun W hE hF => ?_) (fun v Wa Wb ho hE => ?_) (fun v hv => ?_)
  · have hE' : Ext [] W3 W := hE
    refine does_enter 41 #[.agg #[iv (t.1), .slice ou t.2.length cu]] (by go_simp; try rfl) ?_
    refine (Truth_any (t.1, t.2) _ W (SlAt.below HVI3.out hE'.below (Nat.le_refl _)) (by simp only; omega)).mono ?_
    rintro e W' ⟨x, rfl, h1, hb⟩
    exact ⟨_, rfl, ⟨x, rfl⟩, ⟨x, rfl, h1⟩, Ext.of_below hb⟩
  · obtain ⟨x, hv, h1⟩ := ho
    exact ⟨x, hv, h1.below (Ext.below (show Ext [] Wa Wb from hE)) (Nat.le_refl _)⟩
  obtain ⟨x4, rfl⟩ := hv
  simp only [Act.put, List.setIfInBounds_toArray, List.set_cons_succ, List.set_cons_zero]
  repeat (first | (refine tree_det (by rfl) _ (by rfl) (fun W hW => by go_simp; try rfl) ?_; simp only [Act.put, List.setIfInBounds_toArray, List.set_cons_succ, List.set_cons_zero]) | (refine tree_skip (by rfl) (by rfl) ?_; simp only [Act.put, List.setIfInBounds_toArray, List.set_cons_succ, List.set_cons_zero]))
  refine tree_some _ (by rfl) (by rfl) (by exact ⟨.slice none (h.turns).length 0, none, 0, rfl⟩) (fun W hE hF => ?_) (fun v Wa Wb ho hE => SlAt.below ho (Ext.below (show Ext [] Wa Wb from hE)) (Nat.le_refl _)) (fun v hv => ?_)
  · have hE' : Ext [] W3 W := hE
    refine does_enter 22 #[.slice ot h.turns.length ct] (by go_simp; try rfl) ?_
    refine (list_any (h.turns) _ W (SlAt.below ((HT.out.alloc _).below HB3.out (Nat.le_refl _)) hE'.below (Nat.le_refl _)) (by omega)).mono ?_
    rintro e W6 ⟨v, rfl, ho, hb⟩
    exact ⟨v, rfl, owns_slice ho, SlAt.of_owns ho, Ext.of_below hb⟩
  obtain ⟨o4, k4, rfl⟩ := hv
  simp only [Act.put, List.setIfInBounds_toArray, List.set_cons_succ, List.set_cons_zero]
  refine tree_some _ (by rfl) (by rfl) (by exact ⟨_, none, 0, rfl⟩) (fun W hE hF => ?_) (fun v Wa Wb ho hE => ?_) (fun v hv => ?_)
  · have htr : IntsAt W (.slice o4 (h.turns).length k4) (h.turns) := hF _ (List.Mem.head _) (by kernel_rfl)
    obtain ⟨u', hu1, hu2⟩ := hF _ (List.Mem.tail _ (List.Mem.head _)) (by kernel_rfl)
    obtain ⟨a', b', c', he, h1, h2, h3⟩ := hF _ (List.Mem.tail _ (List.Mem.tail _ (List.Mem.head _))) (by kernel_rfl)
    obtain ⟨rfl, rfl, rfl⟩ := hv_inj he
    cases hu1
    refine does_enter 40 #[hv h a4 b4 c4, .agg #[iv (t.1), x4], .slice o4 (h.turns).length k4] (by go_simp; try rfl) ?_
    refine (Play_any h _ _ _ _ _ (t.1) (t.2) (h.turns) W h1 h2 h3 hu2 htr).mono ?_
    rintro e W' ⟨v, rfl, hv, hb⟩
    have hv' : W'.ownsRow W.heap.size 3 1 v (P).length (intCells (P)) := by rw [← HP.out.1]; exact hv
    obtain ⟨o, k, rfl⟩ := owns_slice hv'
    refine ⟨.tuple #[.slice o (P).length k, iv 0], by rw [HP.out.2], ⟨o, k, rfl⟩, ⟨o, k, rfl, SlAt.of_owns hv'⟩, Ext.of_below hb⟩
  · obtain ⟨o, k, hv, h1⟩ := ho
    exact ⟨o, k, hv, h1.below (Ext.below (show Ext [] Wa Wb from hE)) (Nat.le_refl _)⟩
  obtain ⟨r4, q4, rfl⟩ := hv
  simp only [Act.put, List.setIfInBounds_toArray, List.set_cons_succ, List.set_cons_zero]
  repeat (first | (refine tree_det (by rfl) _ (by rfl) (fun W hW => by go_simp; try rfl) ?_; simp only [Act.put, List.setIfInBounds_toArray, List.set_cons_succ, List.set_cons_zero]) | (refine tree_skip (by rfl) (by rfl) ?_; simp only [Act.put, List.setIfInBounds_toArray, List.set_cons_succ, List.set_cons_zero]))
  intro W4 hE hF
  obtain ⟨o', k', he, hv4⟩ := hF _ (List.Mem.head _)
  cases he
  have HV4 := Lib.hid hv4
  have hb := Ext.below (show Ext [] W3 W4 from hE)
  (try clear hcr hsr)
  have HD4 := Lib.hid hb
  have HB4 := Lib.hid (bgo HB3.out hb)
  obtain ⟨hcr, _, hsr⟩ := cells_of_block ((HB4.out.block w.heap.size (by simp)).trans (heap_new0 w _))
  clear hb
  clear hE hF hv4 hct hst
  have HTB4 := Lib.hid ((HD4.out.block _ (cells_of_block HTB3.out).2.2).trans HTB3.out)
  have HVI4 := Lib.hid (SlAt.below HVI3.out HD4.out (Nat.le_refl _))
  go_wp2_with fail
  refine gworld fun W5 hW5 => ?_
  have hb : Below W4.heap.size W4 W5 := by rw [hW5]; exact (by repeat (first | exact Below.refl _ _ | assumption | refine bgo ?_ (by assumption) | refine bgoAlloc ?_ _ | refine bgoDrew ?_ | refine bgoSet ?_ (by simp; omega) _))
  have HXB5 := Lib.hid (show W5.heap[W4.heap.size]? = some (.cells #[.int .i64 h.last, .int .i64 h.size, .int .i64 h.cool, .int .i64 h.die, .int .i64 h.burn, .int .i64 h.start.1, .int .i64 h.start.2, .slice ow h.wet.length cw, .slice ot h.turns.length ct, .slice ox h.readings.length cx] 28 (0, 0)) from by rw [hW5]; exact heap_new0 _ _)
  clear hW5
  (try clear hcr hsr)
  have HD5 := Lib.hid hb
  have HB5 := Lib.hid (bgo HB4.out hb)
  obtain ⟨hcr, _, hsr⟩ := cells_of_block ((HB5.out.block w.heap.size (by simp)).trans (heap_new0 w _))
  clear hb
  have HTB5 := Lib.hid ((HD5.out.block _ (cells_of_block HTB4.out).2.2).trans HTB4.out)
  have HVI5 := Lib.hid (SlAt.below HVI4.out HD5.out (Nat.le_refl _))
  have HV5 := Lib.hid (SlAt.below HV4.out HD5.out (Nat.le_refl _))
  obtain ⟨bP, fP, hbP, hzP, _⟩ := IntsAt.cell HV4.out hKP
  subst hbP
  obtain ⟨bP2, fP2, hbP, _, d1⟩ := IntsAt.cell HV5.out hKP
  cases hbP
  have hnP1 : bP ≠ W4.heap.size := by omega
  have hnP2 : W4.heap.size ≠ bP := by omega
  obtain ⟨y, hy⟩ : ∃ y, P[K] = y := ⟨_, rfl⟩
  rw [hy] at d1
  have hKI : (K : Int) < P.length := by omega
  have HY := Lib.hid (show y = (playOut h t h.turns).getD K 0 from by rw [HP.out.1, getD_lt hKP]; exact hy.symm)
  have HX5 := Lib.hid ((HX.out.alloc _).below HB5.out (Nat.le_refl _))
  obtain ⟨hcx, _, hsx⟩ := cells_of_block HXB5.out
  have hwx : w.heap.size < W4.heap.size := by
    have := HB4.out.size
    simp only [World.size_alloc] at this
    omega
  have hcxd : w.heap.size ≠ W4.heap.size := by omega
  clear hy
  refine wp_region_rg 14 [] none [(0, Spec.slice W5.heap.size #[] 79 0), (3, ⟨fun _ v => ∃ o c, v = .slice o h.readings.length c, fun _ v Wx => Wx.ownsRow W5.heap.size 79 3 v h.readings.length (tripleCells h.readings)⟩), (13, Spec.slice W5.heap.size #[iv K, iv y, iv D] 79 1)] (by kernel_rfl) (by kernel_rfl) ?_
  simp only [List.take_succ_cons, List.take_zero, List.drop_succ_cons, List.drop_zero]
  repeat (first | (refine tree_det (by rfl) _ (by rfl) (fun W hW => by go_simp; try rfl) ?_; simp only [Act.put, List.setIfInBounds_toArray, List.set_cons_succ, List.set_cons_zero]) | (refine tree_skip (by rfl) (by rfl) ?_; simp only [Act.put, List.setIfInBounds_toArray, List.set_cons_succ, List.set_cons_zero]))
  refine tree_slice W5.heap.size _ _ 0 (by rfl) (Nat.le_refl _) (by rfl) (by simp) (by simp) (fun W hW => by go_simp; try rfl) (fun b0 => ?_)
  simp only [Act.put, List.setIfInBounds_toArray, List.set_cons_succ, List.set_cons_zero]
  repeat (first | (refine tree_det (by rfl) _ (by rfl) (fun W hW => by go_simp; try rfl) ?_; simp only [Act.put, List.setIfInBounds_toArray, List.set_cons_succ, List.set_cons_zero]) | (refine tree_skip (by rfl) (by rfl) ?_; simp only [Act.put, List.setIfInBounds_toArray, List.set_cons_succ, List.set_cons_zero]))
  refine tree_some _ (by rfl) (by rfl) (by exact ⟨.slice none h.readings.length 0, none, 0, rfl⟩) (fun W hE hF => ?_) (fun v Wa Wb ho hE => owns_ext (Ms := []) ho hE (by simp)) (fun v hv => ?_)
  · have hE' : Ext [] W5 W := hE
    obtain ⟨b', hb', hge, hc⟩ := hF _ (List.Mem.head _) (by kernel_rfl)
    cases hb'
    refine Does.mono (does_append_empty tReadings4 (by rfl) (by rfl) hge hc (by rfl) (HX5.out.below hE'.below (Nat.le_refl _)) (one_triples _) (by omega) (by omega) hE'.size) ?_
    rintro v W' ⟨ho, hE2⟩
    exact ⟨owns_slice ho, ho, hE2⟩
  obtain ⟨o6, c6, rfl⟩ := hv
  simp only [Act.put, List.setIfInBounds_toArray, List.set_cons_succ, List.set_cons_zero]
  repeat (first | (refine tree_det (by rfl) _ (by rfl) (fun W hW => by go_simp; (try simp (disch := omega) only [IntWalk.i64_in, Int.tmod_eq_emod_of_nonneg]); try rfl) ?_; simp only [Act.put, List.setIfInBounds_toArray, List.set_cons_succ, List.set_cons_zero]) | (refine tree_skip (by rfl) (by rfl) ?_; simp only [Act.put, List.setIfInBounds_toArray, List.set_cons_succ, List.set_cons_zero]))
  refine tree_slice W5.heap.size _ _ 1 (by rfl) (Nat.le_refl _) (by rfl) (by simp) (by simp) (fun W hW => by go_simp; try rfl) (fun b13 => ?_)
  simp only [Act.put, List.setIfInBounds_toArray, List.set_cons_succ, List.set_cons_zero]
  repeat (first | (refine tree_det (by rfl) _ (by rfl) (fun W hW => by go_simp; try rfl) ?_; simp only [Act.put, List.setIfInBounds_toArray, List.set_cons_succ, List.set_cons_zero]) | (refine tree_skip (by rfl) (by rfl) ?_; simp only [Act.put, List.setIfInBounds_toArray, List.set_cons_succ, List.set_cons_zero]))
  intro W6 hE hF
  have hE' : Ext [] W5 W6 := hE
  obtain ⟨b5', hb5, hge5, hc5⟩ := hF _ (List.Mem.head _)
  cases hb5
  have hown : W6.ownsRow W5.heap.size 79 3 (.slice o6 h.readings.length c6) h.readings.length (tripleCells h.readings) := hF _ (List.Mem.tail _ (List.Mem.head _))
  have HE6 := Lib.hid hE'
  have HOW := Lib.hid hown
  have HSRC : Hid (SlAt 3 W6 (.slice (some ⟨b13, 0, none⟩) 1 1) 1 (tripleCells [((K : Int), y, D)])) := Lib.hid (SlAt.of_block 3 1 hc5 rfl (by decide))
  have hsz6 := hE'.size
  clear hE hF hE' hown hc5 hcx hcr d1
  go_wp2_with (at_builtin; refine wpList_append rfl _ _ tReadings4 rfl W5.heap.size (.slice o6 h.readings.length c6) h.readings.length (tripleCells h.readings) rfl HOW.out (.slice (some ⟨b13, 0, none⟩) 1 1) 1 (tripleCells [((K : Int), y, D)]) rfl HSRC.out (one_triples _) (by omega) (by omega) (by omega) ?_)
  intro v' w1 hown hgrow
  have hB1 : Below W5.heap.size W5 w1 := Below.grown HE6.out.below hgrow hsz6 (fun k e => (owns_ge HOW.out k e).1)
  obtain ⟨ov, cv, rfl⟩ := owns_slice hown
  have hY1 := (hB1.block _ hsx).trans HXB5.out
  obtain ⟨hcx, _, hsx'⟩ := cells_of_block hY1
  have HV1 := Lib.hid (SlAt.below HV5.out hB1 (Nat.le_refl _))
  obtain ⟨bP', fP', hbP, hzP', d1⟩ := IntsAt.cell HV1.out hKP
  cases hbP
  have HYK : Hid (P[K] = y) := Lib.hid (by rw [HY.out, HP.out.1, getD_lt hKP])
  rw [HYK.out] at d1
  have HY1 := Lib.hid hY1
  have HOV := Lib.hid hown
  have HBW1 := Lib.hid hB1
  clear hown hgrow hY1 hB1
  go_wp2_with fail
  refine gcallsW fun W7 hW7 => ?_
  have hb : Below W4.heap.size W4 W7 := by rw [hW7]; exact bgoSet (bgo HD5.out HBW1.out) (Nat.le_refl _) _
  have HXB7 := Lib.hid (show W7.heap[W4.heap.size]? = some (.cells #[iv h.last, iv h.size, iv h.cool, iv h.die, iv h.burn, iv h.start.1, iv h.start.2, .slice ow h.wet.length cw, .slice ot h.turns.length ct, .slice ov (h.readings.length + 1) cv] 28 (0, 0)) from by rw [hW7]; exact set_block HY1.out _)
  have HXR7 : Hid (TriplesAt W7 (.slice ov (h.readings.length + 1) cv) (h.readings ++ [((K : Int), y, D)])) := Lib.hid (by
    unfold TriplesAt
    rw [List.length_append, tripleCells_snoc, hW7]
    exact SlAt.of_owns (owns_ext (Ms := [W4.heap.size]) HOV.out (ext_set w1 ⟨W4.heap.size, 9, none⟩ (.slice ov (h.readings.length + 1) cv)) (by simpa using hsx)))
  have HTB7 := Lib.hid ((hb.block _ (cells_of_block HTB4.out).2.2).trans HTB4.out)
  have HVI7 := Lib.hid (SlAt.below HVI4.out hb (Nat.le_refl _))
  clear hW7 hcx hsx' d1 HOV HY1 HBW1 HE6 HOW HSRC HTB5 HVI5 HV5 HV1 HXB5 HX5 hzP hzP' hnP1 hnP2 hsx
  (try clear hcr hsr)
  have HD7 := Lib.hid hb
  have HB7 := Lib.hid (bgo HB4.out hb)
  obtain ⟨hcr, _, hsr⟩ := cells_of_block ((HB7.out.block w.heap.size (by simp)).trans (heap_new0 w _))
  clear hb
  obtain ⟨b, hbb⟩ : ∃ b, inB y 0 1000 = b := ⟨_, rfl⟩
  have HIB := Lib.hid hbb
  refine (In_any y 0 1000 W7).mono ?_
  rw [HIB.out]
  rintro e W8 ⟨rfl, hb⟩
  (try clear hcr hsr)
  have HD8 := Lib.hid hb
  have HB8 := Lib.hid (bgo HB7.out hb)
  obtain ⟨hcr, _, hsr⟩ := cells_of_block ((HB8.out.block w.heap.size (by simp)).trans (heap_new0 w _))
  clear hb
  cases b
  case false =>
    go_wp2_with fail
    refine (awake_any _).mono ?_
    rintro e W9 ⟨rfl, hb⟩
    (try clear hcr hsr)
    have HD9 := Lib.hid hb
    have HB9 := Lib.hid (bgo HB8.out hb)
    obtain ⟨hcr, _, hsr⟩ := cells_of_block ((HB9.out.block w.heap.size (by simp)).trans (heap_new0 w _))
    clear hb
    go_wp2_with fail
    go_returns
    exact ⟨by simp, bgo (bgoAlloc (Below.refl _ _) _) HB9.out⟩
  have hyb : 0 ≤ y ∧ y ≤ 1000 := by simpa [inB] using hbb
  obtain ⟨q, hq⟩ : ∃ q, proveR h t = q := ⟨_, rfl⟩
  have HQ1 := Lib.hid hq
  have HQ2 : Hid (proveR (moreH h ((K : Int), y, D)) t = q) := Lib.hid ((own_plain HS.out hlt hKl HY.out hyb.1 hyb.2 hD0.1 hD0.2 (by omega)).trans hq)
  have HXL : Hid ((h.readings ++ [((K : Int), y, D)]).length ≤ 5) := Lib.hid (by simp; omega)
  clear hq hbb
  obtain ⟨hct, _, hst⟩ := cells_of_block ((HD8.out.block _ (cells_of_block HTB7.out).2.2).trans HTB7.out)
  obtain ⟨hcx, _, hsx⟩ := cells_of_block ((HD8.out.block _ (cells_of_block HXB7.out).2.2).trans HXB7.out)
  have HVI8 := Lib.hid (SlAt.below HVI7.out HD8.out (Nat.le_refl _))
  have HXR8 := Lib.hid (SlAt.below HXR7.out HD8.out (Nat.le_refl _))
  go_wp2_with fail
  refine wp_region_rg 15 [] none [(1, ⟨fun _ v => ∃ a b c, v = hv (h) a b c, fun _ v Wx => ∃ a b c, v = hv (h) a b c ∧ PairsAt Wx a (h).wet ∧ IntsAt Wx b (h).turns ∧ TriplesAt Wx c (h).readings⟩), (3, ⟨fun _ v => ∃ x, v = .agg #[iv (t.1), x], fun _ v Wx => ∃ x, v = .agg #[iv (t.1), x] ∧ IntsAt Wx x (t.2)⟩), (4, Spec.val (.bool q)), (6, ⟨fun _ v => ∃ a b c, v = hv (moreH h ((K : Int), y, D)) a b c, fun _ v Wx => ∃ a b c, v = hv (moreH h ((K : Int), y, D)) a b c ∧ PairsAt Wx a (moreH h ((K : Int), y, D)).wet ∧ IntsAt Wx b (moreH h ((K : Int), y, D)).turns ∧ TriplesAt Wx c (moreH h ((K : Int), y, D)).readings⟩), (8, ⟨fun _ v => ∃ x, v = .agg #[iv (t.1), x], fun _ v Wx => ∃ x, v = .agg #[iv (t.1), x] ∧ IntsAt Wx x (t.2)⟩), (9, Spec.val (.bool q)), (12, Spec.val (.bool true))] (by kernel_rfl) (by kernel_rfl) ?_
  simp only [List.take_succ_cons, List.take_zero, List.drop_succ_cons, List.drop_zero]
  repeat (first | (refine tree_det (by rfl) _ (by rfl) (fun W hW => by go_simp; try rfl) ?_; simp only [Act.put, List.setIfInBounds_toArray, List.set_cons_succ, List.set_cons_zero]) | (refine tree_skip (by rfl) (by rfl) ?_; simp only [Act.put, List.setIfInBounds_toArray, List.set_cons_succ, List.set_cons_zero]))
  refine tree_some _ (by rfl) (by rfl) (by exact ⟨_, undef, undef, undef, rfl⟩) (fun W hE hF => ?_) (fun v Wa Wb ho hE => ?_) (fun v hv => ?_)
  · have hE' : Ext [] W8 W := hE
    refine does_enter 21 #[hv h (.slice ow h.wet.length cw) (.slice ot h.turns.length ct) (.slice ox h.readings.length cx)] (by go_simp; try first | rfl | exact ⟨rfl, rfl, rfl, rfl, rfl, rfl, rfl⟩) ?_
    refine (Heap_any h _ _ _ W ((((HW.out.alloc _).below HB8.out (Nat.le_refl _))).below hE'.below (Nat.le_refl _)) ((((HT.out.alloc _).below HB8.out (Nat.le_refl _))).below hE'.below (Nat.le_refl _)) ((((HX.out.alloc _).below HB8.out (Nat.le_refl _))).below hE'.below (Nat.le_refl _)) (by omega) (by omega) (by omega)).mono ?_
    rintro e W' ⟨a, b, c, rfl, h1, h2, h3, hb⟩
    exact ⟨_, rfl, ⟨a, b, c, rfl⟩, ⟨a, b, c, rfl, h1, h2, h3⟩, Ext.of_below hb⟩
  · obtain ⟨a, b, c, hv, h1, h2, h3⟩ := ho
    have hB := Ext.below (show Ext [] Wa Wb from hE)
    exact ⟨a, b, c, hv, h1.below hB (Nat.le_refl _), h2.below hB (Nat.le_refl _), h3.below hB (Nat.le_refl _)⟩
  obtain ⟨a9, b9, c9, rfl⟩ := hv
  simp only [Act.put, List.setIfInBounds_toArray, List.set_cons_succ, List.set_cons_zero]
  repeat (first | (refine tree_det (by rfl) _ (by rfl) (fun W hW => by go_simp; try rfl) ?_; simp only [Act.put, List.setIfInBounds_toArray, List.set_cons_succ, List.set_cons_zero]) | (refine tree_skip (by rfl) (by rfl) ?_; simp only [Act.put, List.setIfInBounds_toArray, List.set_cons_succ, List.set_cons_zero]))
  refine tree_some _ (by rfl) (by rfl) (by exact ⟨_, undef, rfl⟩) (fun W hE hF => ?_) (fun v Wa Wb ho hE => ?_) (fun v hv => ?_)
  · have hE' : Ext [] W8 W := hE
    refine does_enter 41 #[.agg #[iv (t.1), .slice ou t.2.length cu]] (by go_simp; try rfl) ?_
    refine (Truth_any (t.1, t.2) _ W (SlAt.below HVI8.out hE'.below (Nat.le_refl _)) (by simp only; omega)).mono ?_
    rintro e W' ⟨x, rfl, h1, hb⟩
    exact ⟨_, rfl, ⟨x, rfl⟩, ⟨x, rfl, h1⟩, Ext.of_below hb⟩
  · obtain ⟨x, hv, h1⟩ := ho
    exact ⟨x, hv, h1.below (Ext.below (show Ext [] Wa Wb from hE)) (Nat.le_refl _)⟩
  obtain ⟨x9, rfl⟩ := hv
  simp only [Act.put, List.setIfInBounds_toArray, List.set_cons_succ, List.set_cons_zero]
  refine tree_val _ (by rfl) (by rfl) 55 #[hv (h) a9 b9 c9, .agg #[iv t.1, x9]] (fun W hW => by go_simp; try first | rfl | exact ⟨rfl, rfl, rfl, rfl, rfl, rfl, rfl⟩) (fun W hE hF => ?_) ?_
  · obtain ⟨u', hu1, hu2⟩ := hF _ (List.Mem.head _) (by kernel_rfl)
    obtain ⟨a', b', c', he, h1, h2, h3⟩ := hF _ (List.Mem.tail _ (List.Mem.head _)) (by kernel_rfl)
    obtain ⟨rfl, rfl, rfl⟩ := hv_inj he
    cases hu1
    have := ProveTruth_any (h) _ _ _ _ t.1 t.2 W h1 h2 h3 hu2
    rw [show proveR (h) (t.1, t.2) = q from HQ1.out] at this
    exact this
  simp only [Act.put, List.setIfInBounds_toArray, List.set_cons_succ, List.set_cons_zero]
  repeat (first | (refine tree_det (by rfl) _ (by rfl) (fun W hW => by go_simp; try rfl) ?_; simp only [Act.put, List.setIfInBounds_toArray, List.set_cons_succ, List.set_cons_zero]) | (refine tree_skip (by rfl) (by rfl) ?_; simp only [Act.put, List.setIfInBounds_toArray, List.set_cons_succ, List.set_cons_zero]))
  refine tree_some _ (by rfl) (by rfl) (by exact ⟨_, undef, undef, undef, rfl⟩) (fun W hE hF => ?_) (fun v Wa Wb ho hE => ?_) (fun v hv => ?_)
  · have hE' : Ext [] W8 W := hE
    refine does_enter 21 #[hv (moreH h ((K : Int), y, D)) (.slice ow h.wet.length cw) (.slice ot h.turns.length ct) (.slice ov (h.readings.length + 1) cv)] (by go_simp; try first | rfl | exact ⟨rfl, rfl, rfl, rfl, rfl, rfl, rfl⟩) ?_
    refine (Heap_any (moreH h ((K : Int), y, D)) _ _ _ W ((((HW.out.alloc _).below HB8.out (Nat.le_refl _))).below hE'.below (Nat.le_refl _)) ((((HT.out.alloc _).below HB8.out (Nat.le_refl _))).below hE'.below (Nat.le_refl _)) (SlAt.below HXR8.out hE'.below (Nat.le_refl _)) (by show h.wet.length ≤ 1000; omega) (by show h.turns.length ≤ 1000; omega) (Nat.le_trans HXL.out (by omega))).mono ?_
    rintro e W' ⟨a, b, c, rfl, h1, h2, h3, hb⟩
    exact ⟨_, rfl, ⟨a, b, c, rfl⟩, ⟨a, b, c, rfl, h1, h2, h3⟩, Ext.of_below hb⟩
  · obtain ⟨a, b, c, hv, h1, h2, h3⟩ := ho
    have hB := Ext.below (show Ext [] Wa Wb from hE)
    exact ⟨a, b, c, hv, h1.below hB (Nat.le_refl _), h2.below hB (Nat.le_refl _), h3.below hB (Nat.le_refl _)⟩
  obtain ⟨a10, b10, c10, rfl⟩ := hv
  simp only [Act.put, List.setIfInBounds_toArray, List.set_cons_succ, List.set_cons_zero]
  repeat (first | (refine tree_det (by rfl) _ (by rfl) (fun W hW => by go_simp; try rfl) ?_; simp only [Act.put, List.setIfInBounds_toArray, List.set_cons_succ, List.set_cons_zero]) | (refine tree_skip (by rfl) (by rfl) ?_; simp only [Act.put, List.setIfInBounds_toArray, List.set_cons_succ, List.set_cons_zero]))
  refine tree_some _ (by rfl) (by rfl) (by exact ⟨_, undef, rfl⟩) (fun W hE hF => ?_) (fun v Wa Wb ho hE => ?_) (fun v hv => ?_)
  · have hE' : Ext [] W8 W := hE
    refine does_enter 41 #[.agg #[iv (t.1), .slice ou t.2.length cu]] (by go_simp; try rfl) ?_
    refine (Truth_any (t.1, t.2) _ W (SlAt.below HVI8.out hE'.below (Nat.le_refl _)) (by simp only; omega)).mono ?_
    rintro e W' ⟨x, rfl, h1, hb⟩
    exact ⟨_, rfl, ⟨x, rfl⟩, ⟨x, rfl, h1⟩, Ext.of_below hb⟩
  · obtain ⟨x, hv, h1⟩ := ho
    exact ⟨x, hv, h1.below (Ext.below (show Ext [] Wa Wb from hE)) (Nat.le_refl _)⟩
  obtain ⟨x10, rfl⟩ := hv
  simp only [Act.put, List.setIfInBounds_toArray, List.set_cons_succ, List.set_cons_zero]
  refine tree_val _ (by rfl) (by rfl) 55 #[hv (moreH h ((K : Int), y, D)) a10 b10 c10, .agg #[iv t.1, x10]] (fun W hW => by go_simp; try first | rfl | exact ⟨rfl, rfl, rfl, rfl, rfl, rfl, rfl⟩) (fun W hE hF => ?_) ?_
  · obtain ⟨u', hu1, hu2⟩ := hF _ (List.Mem.head _) (by kernel_rfl)
    obtain ⟨a', b', c', he, h1, h2, h3⟩ := hF _ (List.Mem.tail _ (List.Mem.head _)) (by kernel_rfl)
    obtain ⟨rfl, rfl, rfl⟩ := hv_inj he
    cases hu1
    have := ProveTruth_any (moreH h ((K : Int), y, D)) _ _ _ _ t.1 t.2 W h1 h2 h3 hu2
    rw [show proveR (moreH h ((K : Int), y, D)) (t.1, t.2) = q from HQ2.out] at this
    exact this
  simp only [Act.put, List.setIfInBounds_toArray, List.set_cons_succ, List.set_cons_zero]
  repeat (first | (refine tree_det (by rfl) _ (by rfl) (fun W hW => by go_simp; try rfl) ?_; simp only [Act.put, List.setIfInBounds_toArray, List.set_cons_succ, List.set_cons_zero]) | (refine tree_skip (by rfl) (by rfl) ?_; simp only [Act.put, List.setIfInBounds_toArray, List.set_cons_succ, List.set_cons_zero]))
  refine tree_val _ (by rfl) (by rfl) 19 _ (fun W hW => by go_simp; try rfl) (fun W hE hF => by exact awake_any W) ?_
  simp only [Act.put, List.setIfInBounds_toArray, List.set_cons_succ, List.set_cons_zero]
  repeat (first | (refine tree_det (by rfl) _ (by rfl) (fun W hW => by go_simp; try rfl) ?_; simp only [Act.put, List.setIfInBounds_toArray, List.set_cons_succ, List.set_cons_zero]) | (refine tree_skip (by rfl) (by rfl) ?_; simp only [Act.put, List.setIfInBounds_toArray, List.set_cons_succ, List.set_cons_zero]))
  intro W9 hE hF
  have hb := Ext.below (show Ext [] W8 W9 from hE)
  (try clear hcr hsr)
  have HD9 := Lib.hid hb
  have HB9 := Lib.hid (bgo HB8.out hb)
  obtain ⟨hcr, _, hsr⟩ := cells_of_block ((HB9.out.block w.heap.size (by simp)).trans (heap_new0 w _))
  clear hb
  clear hE hF
  go_wp2_with fail
  go_returns
  exact ⟨by simp, bgo (bgoAlloc (Below.refl _ _) _) HB9.out⟩

end Go.Proofs.Ytoibfafmnaooaaa
