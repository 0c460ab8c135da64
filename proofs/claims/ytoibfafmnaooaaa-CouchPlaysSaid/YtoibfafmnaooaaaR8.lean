/-
  Contracts of the reference: Heat, Right.
-/
import Derived.WalkKit
import Derived.WalkLawsBesides
import Derived.WalkSpells
import Derived.Outline
import Derived.Handy
import Derived.KernelRfl
import Derived.Lib.Hide
import Derived.Test.YtoibfafmnaooaaaL1
namespace Go.Proofs.Ytoibfafmnaooaaa
open Go.RowKit Go.RG Go.SL Go.Shelf Cou
set_option maxHeartbeats 400000
set_option maxRecDepth 10000

/-- What the heats need of a heap and a truth. -/
structure HeatOk (h : HeapD) (t : Int × List Int) : Prop where
  size0 : 0 ≤ h.size
  size1 : h.size ≤ 20
  cool0 : 0 ≤ h.cool
  cool1 : h.cool ≤ 100
  start0 : 0 ≤ t.1
  start1 : t.1 ≤ 500
  wet : ∀ x ∈ t.2, 0 ≤ x ∧ x ≤ 20

theorem heatOk_of {h : HeapD} (hS : Sound h) {t : Int × List Int} (hl : listedT h t = true) : HeatOk h t := by
  obtain ⟨_, _, h1, h2, h3⟩ := listed_of hS hl
  exact ⟨hS.size0, hS.size1, hS.cool0, hS.cool1, h1, h2, h3⟩

theorem HeatOk.bd {h : HeapD} {t : Int × List Int} (hO : HeatOk h t) (turns : List Int) (k : Nat) : 0 ≤ heatAt h.size h.cool turns t.1 t.2 k ∧ heatAt h.size h.cool turns t.1 t.2 k ≤ 500 + 40 * k :=
  heatAt_bd turns t.2 hO.size0 hO.size1 hO.cool0 hO.cool1 hO.start0 hO.start1 hO.wet k

set_option maxHeartbeats 2000000 in
theorem Heat_any (h : HeapD) (wv tv xv' : Value) (t : Int × List Int) (hO : HeatOk h t) (uv rv' : Value) (turns : List Int) :
    ∀ (k : Nat) (w : World), k ≤ t.2.length → k ≤ 12 → IntsAt w uv t.2 → IntsAt w rv' turns → (∃ o n c, wv = .slice o n c) → (∃ o n c, tv = .slice o n c) → (∃ o n c, xv' = .slice o n c) →
      Calls Try.prog 37 #[hv h wv tv xv', .agg #[iv t.1, uv], rv', iv ((k : Int) - 1)] w (PV (iv (heatAt h.size h.cool turns t.1 t.2 k)) w) := by
  intro k
  induction k with
  | zero =>
    intro w _ _ hu hr h1 h2 h3
    obtain ⟨o1, c1, rfl⟩ := hu.open
    obtain ⟨o2, c2, rfl⟩ := hr.open
    obtain ⟨oa, na, ca, rfl⟩ := h1
    obtain ⟨ob, nb, cb, rfl⟩ := h2
    obtain ⟨oc, nc, cc, rfl⟩ := h3
    clear hu hr
    go_enter Try.func37, Try.ntmps37
    go_wp2
    go_returns
    exact ⟨by simp [heatAt], (by repeat (first | exact Below.refl _ _ | assumption | refine bgo ?_ (by assumption) | refine bgoAlloc ?_ _ | refine bgoDrew ?_ | refine bgoSet ?_ (by simp; omega) _))⟩
  | succ k ih =>
    intro w hk hk12 hu hr h1 h2 h3
    have hk' : k < t.2.length := by omega
    have hbd := hO.bd turns k
    have hx := hO.wet _ (List.getElem_mem hk')
    have hval : heatAt h.size h.cool turns t.1 t.2 (k + 1) = cooled h.cool (heatAt h.size h.cool turns t.1 t.2 k) (turns.contains (k : Int)) + h.size * t.2[k] / 10 := by
      simp [heatAt, stepH, List.getD, hk']
    have hs0 := hO.size0
    have hs1 := hO.size1
    have hc0 := hO.cool0
    have hc1 := hO.cool1
    have hcb := cooled_bd hc0 hc1 hbd.1 (turns.contains (k : Int))
    obtain ⟨o1, c1, rfl⟩ := hu.open
    obtain ⟨o2, c2, rfl⟩ := hr.open
    obtain ⟨oa, na, ca, rfl⟩ := h1
    obtain ⟨ob, nb, cb, rfl⟩ := h2
    obtain ⟨oc, nc, cc, rfl⟩ := h3
    obtain ⟨b, off, rfl, hb1, d1⟩ := IntsAt.cell hu hk'
    have HU := Lib.hid hu
    have HR := Lib.hid hr
    have HIH := Lib.hid ih
    have hkI : ((k + 1 : Nat) : Int) - 1 = (k : Int) := by omega
    rw [hkI]
    have hlen := hu.len
    clear hu hr ih hkI
    obtain ⟨m, hm⟩ : ∃ m, heatAt h.size h.cool turns t.1 t.2 k = m := ⟨_, rfl⟩
    obtain ⟨q, hq⟩ : ∃ q, heatAt h.size h.cool turns t.1 t.2 (k + 1) = q := ⟨_, rfl⟩
    rw [hm] at hbd hval hcb
    rw [hq] at hval
    rw [hq]
    generalize t.2[k] = x at *
    obtain ⟨hm0, hm1⟩ := hbd
    obtain ⟨hx0, hx1⟩ := hx
    have hsx0 : 0 ≤ h.size * x := Int.mul_nonneg hs0 hx0
    have hsx1 : h.size * x ≤ 20 * 20 := Int.mul_le_mul hs1 hx1 hx0 (by omega)
    have hsx2 : h.size * x ≤ 400 := by omega
    have hmc0 : 0 ≤ m * h.cool := Int.mul_nonneg hm0 hc0
    have hmc1 : m * h.cool ≤ m * 100 := Int.mul_le_mul_of_nonneg_left hc1 hm0
    have hmc2 : m * h.cool ≤ 200000 := by omega
    have hm2 : m ≤ 1000 := by omega
    obtain ⟨bt, hbt⟩ : ∃ bt, turns.contains (k : Int) = bt := ⟨_, rfl⟩
    rw [hbt] at hval hcb
    have HM := Lib.hid (And.intro hm (And.intro hbt hval))
    have hkk : k ≤ 12 := by omega
    have hkl : (k : Int) < t.2.length := by omega
    clear hm hq hbt hval hsx1 hm1 hcb hk12
    have HO := Lib.hid hO
    clear hO
    go_enter Try.func37, Try.ntmps37
    go_wp2_with fail
    refine (HIH.out _ (by omega) hkk ((HU.out.alloc _).alloc _) ((HR.out.alloc _).alloc _) ⟨_, _, _, rfl⟩ ⟨_, _, _, rfl⟩ ⟨_, _, _, rfl⟩).mono ?_
    rw [HM.out.1]
    rintro e W1 ⟨rfl, hb⟩
    obtain ⟨hc, hf⟩ := bcell hb
    have hz0 : w.heap.size + 1 < W1.heap.size := by have := hb.size; simp only [World.size_alloc] at this; omega
    have hz1 : b < W1.heap.size := by omega
    have HB1 := Lib.hid hb
    clear hb HIH
    go_wp2_with fail
    refine (Has_any turns _ (k : Int) _ (((HR.out.alloc _).alloc _).below HB1.out (Nat.le_refl _))).mono ?_
    rw [HM.out.2.1]
    rintro e W2 ⟨rfl, hb⟩
    have hz2 : w.heap.size + 1 < W2.heap.size := by have := hb.size; omega
    have d1' : W2.cell? ⟨b, off + k, none⟩ = some (.int .i64 x) := by
      rw [(bcell hb).1 b _ hz1, hc b _ (by simp; omega)]
      exact ((((Below.refl w.heap.size w).alloc (Nat.le_refl _) _).alloc (by simp) _).cell (p := ⟨b, off + k, none⟩) hb1).trans d1
    have HB2 := Lib.hid hb
    obtain ⟨hx1c, _, hx1s⟩ := cells_of_block ((hb.block w.heap.size (by omega)).trans ((HB1.out.block _ (by simp; omega)).trans ((Below.heap_alloc _ _ _ (by simp)).trans (heap_new0 _ _))))
    obtain ⟨hx2c, _, hx2s⟩ := cells_of_block ((hb.block (w.heap.size + 1) (by omega)).trans ((HB1.out.block _ (by simp)).trans (heap_new1 _ _ _)))
    clear hb hc hf d1
    have hz3 : b < W2.heap.size := by omega
    cases bt
    · have hmq : q = m + h.size * x / 10 := by rw [HM.out.2.2]; rfl
      have HMQ := Lib.hid hmq
      clear hmq
      go_wp2_with fail
      refine wp_region_rg 12 [] none [] (by kernel_rfl) (by kernel_rfl) ?_
      simp only [List.take_succ_cons, List.take_zero, List.drop_succ_cons, List.drop_zero]
      repeat (first | (refine tree_det (by rfl) _ (by rfl) (fun W hW => by go_simp; (try simp (disch := omega) only [IntWalk.i64_in, Int.tdiv_eq_ediv_of_nonneg]); try rfl) ?_; simp only [Act.put, List.setIfInBounds_toArray, List.set_cons_succ, List.set_cons_zero]) | (refine tree_skip (by rfl) (by rfl) ?_; simp only [Act.put, List.setIfInBounds_toArray, List.set_cons_succ, List.set_cons_zero]))
      intro W3 hE hF
      have HE := Lib.hid (show Ext [] W2 W3 from hE)
      clear hE hF
      go_wp2_with fail
      go_returns
      exact ⟨by rw [HMQ.out]; simp, bgo (bgo (bgo (bgoAlloc (bgoAlloc (Below.refl _ _) _) _) HB1.out) HB2.out) HE.out.below⟩
    · have hmq : q = m - m * h.cool / 100 + h.size * x / 10 := by rw [HM.out.2.2]; rfl
      have HMQ := Lib.hid hmq
      clear hmq
      go_wp2_with fail
      have hdv : m * h.cool / 100 ≤ m := by omega
      have hdv0 : 0 ≤ m * h.cool / 100 := by omega
      clear hmc0 hmc1 hmc2
      generalize m * h.cool / 100 = y at *
      refine wp_region_rg 12 [] none [] (by kernel_rfl) (by kernel_rfl) ?_
      simp only [List.take_succ_cons, List.take_zero, List.drop_succ_cons, List.drop_zero]
      repeat (first | (refine tree_det (by rfl) _ (by rfl) (fun W hW => by go_simp; (try simp (disch := omega) only [IntWalk.i64_in, Int.tdiv_eq_ediv_of_nonneg]); try rfl) ?_; simp only [Act.put, List.setIfInBounds_toArray, List.set_cons_succ, List.set_cons_zero]) | (refine tree_skip (by rfl) (by rfl) ?_; simp only [Act.put, List.setIfInBounds_toArray, List.set_cons_succ, List.set_cons_zero]))
      intro W3 hE hF
      have HE := Lib.hid (show Ext [] W2 W3 from hE)
      clear hE hF
      go_wp2_with fail
      go_returns
      exact ⟨by rw [HMQ.out]; simp, bgo (bgo (bgo (bgoAlloc (bgoAlloc (Below.refl _ _) _) _) HB1.out) HB2.out) HE.out.below⟩

theorem Heat_at (h : HeapD) (t : Int × List Int) (hO : HeatOk h t) (oa ob oc : Option Addr) (na ca nb cb nc cc : Nat) (uv rv' : Value) (turns : List Int) (n : Nat) (w : World) (hn : n < t.2.length) (hn12 : n < 12) (hu : IntsAt w uv t.2) (hr : IntsAt w rv' turns) :
    Calls Try.prog 37 #[hv h (.slice oa na ca) (.slice ob nb cb) (.slice oc nc cc), .agg #[iv t.1, uv], rv', iv (n : Int)] w (PV (iv (heatAt h.size h.cool turns t.1 t.2 (n + 1))) w) := by
  have := Heat_any h (.slice oa na ca) (.slice ob nb cb) (.slice oc nc cc) t hO uv rv' turns (n + 1) w hn hn12 hu hr ⟨_, _, _, rfl⟩ ⟨_, _, _, rfl⟩ ⟨_, _, _, rfl⟩
  rwa [show (((n + 1 : Nat) : Int) - 1) = (n : Int) from by omega] at this

/-- A reading is right, by the reference. -/
def rightB (h : HeapD) (t : Int × List Int) (x : Rdg) : Bool := inB (heatAt h.size h.cool h.turns t.1 t.2 (x.1.toNat + 1)) (x.2.1 - x.2.2) (x.2.1 + x.2.2)

set_option maxHeartbeats 1000000 in
theorem Right_any (h : HeapD) (oa oc : Option Addr) (na ca nc cc : Nat) (tv : Value) (t : Int × List Int) (hO : HeatOk h t) (uv : Value) (x : Rdg) (w : World) (hu : IntsAt w uv t.2) (ht : IntsAt w tv h.turns)
    (h0 : 0 ≤ x.1) (h1 : x.1 < t.2.length) (h2 : x.1 < 12) (hs0 : 0 ≤ x.2.1) (hs1 : x.2.1 ≤ 1000) (he0 : 0 ≤ x.2.2) (he1 : x.2.2 ≤ 50) :
    Calls Try.prog 74 #[hv h (.slice oa na ca) tv (.slice oc nc cc), .agg #[iv t.1, uv], xv x] w (PV (.bool (rightB h t x)) w) := by
  obtain ⟨o1, c1, rfl⟩ := hu.open
  obtain ⟨ob, cb, rfl⟩ := ht.open
  obtain ⟨xh, xs, xe⟩ := x
  simp only at h0 h1 h2 hs0 hs1 he0 he1
  obtain ⟨n, rfl⟩ := Int.eq_ofNat_of_zero_le h0
  have HQ := Lib.hid (show rightB h t ((n : Int), xs, xe) = inB (heatAt h.size h.cool h.turns t.1 t.2 (n + 1)) (xs - xe) (xs + xe) from by simp [rightB])
  have HU := Lib.hid hu
  have HT := Lib.hid ht
  have HO := Lib.hid hO
  have HN := Lib.hid (show n < t.2.length ∧ n < 12 from ⟨by omega, by omega⟩)
  clear hu ht hO
  obtain ⟨m, hm⟩ : ∃ m, heatAt h.size h.cool h.turns t.1 t.2 (n + 1) = m := ⟨_, rfl⟩
  rw [hm] at HQ
  have HM := Lib.hid hm
  clear hm
  go_enter Try.func74, Try.ntmps74
  go_wp2_with fail
  refine gworld fun W1 hW1 => ?_
  have HB1 := Lib.hid (show Below w.heap.size w W1 from by rw [hW1]; exact (by repeat (first | exact Below.refl _ _ | assumption | refine bgo ?_ (by assumption) | refine bgoAlloc ?_ _ | refine bgoDrew ?_ | refine bgoSet ?_ (by simp; omega) _)))
  obtain ⟨hx1c, _, hx1s⟩ := cells_of_block (show W1.heap[w.heap.size]? = some (.cells #[iv h.last, iv h.size, iv h.cool, iv h.die, iv h.burn, iv h.start.1, iv h.start.2, .slice oa na ca, .slice ob h.turns.length cb, .slice oc nc cc] 28 (0, 0)) from by rw [hW1]; exact (Below.heap_alloc _ _ _ (by first | omega | (simp; done) | (simp; omega))).trans ((Below.heap_alloc _ _ _ (by first | omega | (simp; done) | (simp; omega))).trans (heap_new0 _ _)))
  obtain ⟨hx2c, _, hx2s⟩ := cells_of_block (show W1.heap[w.heap.size + 1]? = some (.cells #[iv t.1, .slice o1 t.2.length c1] 66 (0, 0)) from by rw [hW1]; exact (Below.heap_alloc _ _ _ (by first | omega | (simp; done) | (simp; omega))).trans (heap_new1 _ _ _))
  obtain ⟨hx3c, _, hx3s⟩ := cells_of_block (show W1.heap[w.heap.size + 2]? = some (.cells #[iv (n : Int), iv xs, iv xe] 79 (0, 0)) from by rw [hW1]; exact heap_new2 _ _ _ _)
  clear hW1
  refine wp_region_rg 18 [] none [(6, Spec.val (iv m)), (17, Spec.val (.bool (inB m (xs - xe) (xs + xe))))] (by kernel_rfl) (by kernel_rfl) ?_
  simp only [List.take_succ_cons, List.take_zero, List.drop_succ_cons, List.drop_zero]
  repeat (first | (refine tree_det (by rfl) _ (by rfl) (fun W hW => by go_simp; (try simp (disch := omega) only [IntWalk.i64_in]); try rfl) ?_; simp only [Act.put, List.setIfInBounds_toArray, List.set_cons_succ, List.set_cons_zero]) | (refine tree_skip (by rfl) (by rfl) ?_; simp only [Act.put, List.setIfInBounds_toArray, List.set_cons_succ, List.set_cons_zero]))
  refine tree_val _ (by rfl) (by rfl) 37 _ (fun W hW => by go_simp; try rfl) (fun W hE hF => by exact by have := Heat_at h t HO.out oa ob oc na ca h.turns.length cb nc cc (.slice o1 t.2.length c1) (.slice ob h.turns.length cb) h.turns n W HN.out.1 HN.out.2 ((HU.out.below HB1.out (Nat.le_refl _)).below (Ext.below (show Ext [] W1 W from hE)) (Nat.le_refl _)) ((HT.out.below HB1.out (Nat.le_refl _)).below (Ext.below (show Ext [] W1 W from hE)) (Nat.le_refl _)); rw [HM.out] at this; exact this) ?_
  simp only [Act.put, List.setIfInBounds_toArray, List.set_cons_succ, List.set_cons_zero]
  repeat (first | (refine tree_det (by rfl) _ (by rfl) (fun W hW => by go_simp; (try simp (disch := omega) only [IntWalk.i64_in]); try rfl) ?_; simp only [Act.put, List.setIfInBounds_toArray, List.set_cons_succ, List.set_cons_zero]) | (refine tree_skip (by rfl) (by rfl) ?_; simp only [Act.put, List.setIfInBounds_toArray, List.set_cons_succ, List.set_cons_zero]))
  refine tree_val _ (by rfl) (by rfl) 43 _ (fun W hW => by go_simp; try rfl) (fun W hE hF => by exact In_any m (xs - xe) (xs + xe) W) ?_
  simp only [Act.put, List.setIfInBounds_toArray, List.set_cons_succ, List.set_cons_zero]
  repeat (first | (refine tree_det (by rfl) _ (by rfl) (fun W hW => by go_simp; (try simp (disch := omega) only [IntWalk.i64_in]); try rfl) ?_; simp only [Act.put, List.setIfInBounds_toArray, List.set_cons_succ, List.set_cons_zero]) | (refine tree_skip (by rfl) (by rfl) ?_; simp only [Act.put, List.setIfInBounds_toArray, List.set_cons_succ, List.set_cons_zero]))
  intro W3 hE hF
  have HE := Lib.hid (show Ext [] W1 W3 from hE)
  clear hE hF
  go_wp2_with fail
  go_returns
  exact ⟨by rw [HQ.out]; simp, bgo HB1.out HE.out.below⟩

end Go.Proofs.Ytoibfafmnaooaaa
