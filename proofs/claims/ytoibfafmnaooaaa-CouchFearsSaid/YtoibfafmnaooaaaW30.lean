/-
  Contracts of the law's helpers: between, first, ints, list, to, one.
-/
import Derived.WalkKit
import Derived.WalkLawsBesides
import Derived.WalkSpells
import Derived.Outline
import Derived.Handy
import Derived.KernelRfl
import Derived.Lib.Hide
import Derived.Test.YtoibfafmnaooaaaW29
namespace Go.Proofs.Ytoibfafmnaooaaa
open Go.RowKit Go.RG Go.SL Go.Shelf Cou
set_option maxHeartbeats 400000
set_option maxRecDepth 10000

theorem store_vals (P : Program) {w : World} {g : Nat} {t : TypeId} {cur : Array Value} (ys : List Value) (hone : ∀ u ∈ ys, u.oneCell' = true) (hg : w.heap[g]? = some (.cells cur t (0, 0))) (hl : cur.size = ys.length) :
    ∃ w', (storeCells ⟨g, 0, none⟩ ys).run P w = .ok () w' ∧ w'.heap[g]? = some (.cells ys.toArray t (0, 0)) ∧ Ext [g] w w' := by
  have h := run_storeCells_at P g 0 t ys 0 cur w hg (by omega) hone
  refine ⟨_, h, ?_, rfl, rfl, rfl, by simp, fun k _ hm => setRow_other _ _ _ _ (by simpa using hm)⟩
  rw [setRow_heap w g cur _ t _ hg]
  simp
  omega

theorem between_any (lo hi : Int) (w : World) : Calls Try.prog 63 #[iv lo, iv hi] w (PV (rv (lo, hi)) w) := by
  go_enter Try.func63, Try.ntmps63
  go_wp2
  go_returns
  exact ⟨by simp, (by repeat (first | exact Below.refl _ _ | assumption | refine bgo ?_ (by assumption) | refine bgoAlloc ?_ _ | refine bgoDrew ?_ | refine bgoSet ?_ (by simp; omega) _))⟩

theorem to_any (r : Rng) (w : World) : Calls Try.prog 52 #[rv r] w (PV (rv r) w) := by
  go_enter Try.func52, Try.ntmps52
  go_wp2
  go_returns
  exact ⟨by simp, (by repeat (first | exact Below.refl _ _ | assumption | refine bgo ?_ (by assumption) | refine bgoAlloc ?_ _ | refine bgoDrew ?_ | refine bgoSet ?_ (by simp; omega) _))⟩

theorem list_any (l : List Int) (v : Value) (w : World) (hv : IntsAt w v l) (hlen : l.length ≤ 1000) :
    Calls Try.prog 22 #[v] w (POwn 3 1 l.length (intCells l) w) := by
  obtain ⟨o, c, rfl⟩ := hv.open
  have HV := Lib.hid hv
  clear hv
  go_enter Try.func22, Try.ntmps22
  go_wp2_with (at_builtin; refine wpList_append rfl _ _ tInts rfl w.heap.size (.slice none 0 0) 0 [] rfl ⟨rfl, .inl ⟨rfl, rfl⟩⟩ (.slice o l.length c) l.length (intCells l) rfl HV.out (one_ints _) (by omega) (by omega) (Nat.le_refl _) ?_)
  intro v' w1 hown hgrow
  obtain ⟨o1, c1, rfl⟩ := owns_slice hown
  have HO := Lib.hid hown
  have HG := Lib.hid hgrow
  clear hown hgrow
  go_wp2
  go_returns
  refine ⟨.slice o1 l.length c1, by simp, ?_, Below.grown (Below.refl _ _) HG.out (Nat.le_refl _) (fun k e => by cases e)⟩
  have := HO.out
  simpa using this

theorem ints_any (l m : List Int) (v u : Value) (w : World) (hv : IntsAt w v l) (hu : IntsAt w u m) : Calls Try.prog 30 #[v, u] w (PV (.bool (l == m)) w) := by
  obtain ⟨o, c, rfl⟩ := hv.open
  obtain ⟨o2, c2, rfl⟩ := hu.open
  have hl1 := hv.len
  have hl2 := hu.len
  obtain ⟨q, hq⟩ : ∃ q, (l == m) = q := ⟨_, rfl⟩
  rw [hq]
  have HQ := Lib.hid hq
  have HV := Lib.hid hv
  have HU := Lib.hid hu
  clear hv hu hq
  by_cases hlen : l.length = m.length
  · have hb : ((l.length : Int) != (m.length : Int)) = false := by simp [hlen]
    go_enter Try.func30, Try.ntmps30
    go_wp2_with fail
    go_loopw [5] (fun u wr => ∃ k : Nat, k ≤ l.length ∧ u = .int .i64 k ∧ Below w.heap.size w wr ∧ ∀ j, j < k → l.getD j 0 = m.getD j 0) (fun u _ => l.length - (intOf u).toNat)
    case atStart => exact ⟨0, Nat.zero_le _, rfl, Below.refl _ _, fun j hj => by omega⟩
    case round =>
      obtain ⟨k, hk, rfl, hB, hno⟩ := hrel
      by_cases hlt : k < l.length
      · have hlm : k < m.length := by omega
        obtain ⟨b, off, rfl, hb1, d1⟩ := IntsAt.cell (HV.out.below hB (Nat.le_refl _)) hlt
        obtain ⟨b', off', rfl, hb2, d2⟩ := IntsAt.cell (HU.out.below hB (Nat.le_refl _)) hlm
        have hltI : (k : Int) < l.length := by omega
        have hlmI : (k : Int) < m.length := by omega
        have g1 : l.getD k 0 = l[k] := by simp [List.getD, hlt]
        have g2 : m.getD k 0 = m[k] := by simp [List.getD, hlm]
        generalize l[k] = x at *
        generalize m[k] = y at *
        have HN := Lib.hid hno
        have HG := Lib.hid (And.intro g1 g2)
        have HB := Lib.hid hB
        clear hno g1 g2 hB
        by_cases hxy : x = y
        · have hxyb : (x != y) = false := by simpa using hxy
          go_wp2_with fail
          refine wp_region_rg 9 [] none [] (by kernel_rfl) (by kernel_rfl) ?_
          simp only [List.take_succ_cons, List.take_zero, List.drop_succ_cons, List.drop_zero]
          repeat (refine tree_det (by rfl) _ (by rfl) (fun W hW => by go_simp; (try simp (disch := omega) only [IntWalk.i64_in, Int.tdiv_eq_ediv_of_nonneg]); try rfl) ?_; simp only [Act.put, List.setIfInBounds_toArray, List.set_cons_succ, List.set_cons_zero])
          intro W hE hF
          obtain ⟨hc, hf⟩ := bcell hE.below
          have hzE := hE.size
          (try simp only [World.size_alloc] at hzE)
          have HE := Lib.hid hE
          clear hE hF
          go_wp2_with fail
          go_roundw
          case rel =>
            refine ⟨k + 1, by omega, by go_num, bgo HB.out HE.out.below, fun j hj => ?_⟩
            by_cases e : j = k
            · subst e; rw [HG.out.1, HG.out.2]; exact hxy
            · exact HN.out j (by omega)
          case measure => simp [intOf]; omega
        · have hxyb : (x != y) = true := by simpa using hxy
          have hq0 : q = false := by
            rw [← HQ.out]
            cases h : (l == m)
            · rfl
            · have := eq_of_beq h
              rw [this] at HG
              exact absurd (HG.out.1.symm.trans HG.out.2) hxy
          subst hq0
          go_wp2_with fail
          refine wp_region_rg 9 [] none [] (by kernel_rfl) (by kernel_rfl) ?_
          simp only [List.take_succ_cons, List.take_zero, List.drop_succ_cons, List.drop_zero]
          repeat (refine tree_det (by rfl) _ (by rfl) (fun W hW => by go_simp; (try simp (disch := omega) only [IntWalk.i64_in, Int.tdiv_eq_ediv_of_nonneg]); try rfl) ?_; simp only [Act.put, List.setIfInBounds_toArray, List.set_cons_succ, List.set_cons_zero])
          intro W hE hF
          obtain ⟨hc, hf⟩ := bcell hE.below
          have hzE := hE.size
          (try simp only [World.size_alloc] at hzE)
          have HE := Lib.hid hE
          clear hE hF
          go_wp2_with fail
          go_returns
          exact ⟨by simp, bgo HB.out HE.out.below⟩
      · have hkl : k = l.length := by omega
        have hq1 : q = true := by
          rw [← HQ.out]
          have : l = m := by
            apply List.ext_getElem hlen
            intro i h1 h2
            have := hno i (by omega)
            simpa [List.getD, h1, h2] using this
          rw [this]
          simp
        subst hq1
        have HB := Lib.hid hB
        clear hno hB
        go_wp2_with fail
        go_returns
        exact ⟨by simp, HB.out⟩
  · have hb : ((l.length : Int) != (m.length : Int)) = true := by simp; omega
    have hq0 : q = false := by
      rw [← HQ.out]
      cases h : (l == m)
      · rfl
      · exact absurd (congrArg List.length (eq_of_beq h)) hlen
    subst hq0
    go_enter Try.func30, Try.ntmps30
    go_wp2_with fail
    go_returns
    exact ⟨by simp, Below.refl _ _⟩

/-- The chapter's heap, with some of its readings. -/
def oneH (k : Nat) : HeapD := ⟨4, 10, 50, 20, 60, (30, 32), [(10, 12), (10, 10), (12, 12), (8, 9), (10, 10)], [], [(1, 53, 1), (3, 70, 1)].take k⟩

/-- It returns a heap; nothing that was there has turned. -/
def PHeap (h : HeapD) (w : World) (e : Ending) (w' : World) : Prop :=
  ∃ a b c, e = .returned (hv h a b c) ∧ PairsAt w' a h.wet ∧ IntsAt w' b h.turns ∧ TriplesAt w' c h.readings ∧ Below w.heap.size w w'

theorem first_any (w : World) : Calls Try.prog 62 #[] w (fun e w' => ∃ v, e = .returned (.agg #[iv 30, v]) ∧ IntsAt w' v [10, 10, 12, 8, 10] ∧ Below w.heap.size w w') := by
  go_enter Try.func62, Try.ntmps62
  go_wp2
  go_returns
  refine ⟨.slice (some ⟨w.heap.size + 1, 0, none⟩) 5 5, by simp, ?_, ?_⟩
  · exact SlAt.of_block 1 5 (heap_new1 _ _ _) rfl (by decide)
  · exact bgoAlloc (bgoAlloc (Below.refl _ _) _) _

theorem ten_other {W : World} {b g : Nat} (hg : g ≠ b) (y0 y1 y2 y3 y4 y5 y6 y7 y8 y9 : Value) :
    ((((((((((W.setCell ⟨b, 0, none⟩ y0).setCell ⟨b, 1, none⟩ y1).setCell ⟨b, 2, none⟩ y2).setCell ⟨b, 3, none⟩ y3).setCell ⟨b, 4, none⟩ y4).setCell ⟨b, 5, none⟩ y5).setCell ⟨b, 6, none⟩ y6).setCell ⟨b, 7, none⟩ y7).setCell ⟨b, 8, none⟩ y8).setCell ⟨b, 9, none⟩ y9).heap[g]? = W.heap[g]? := by
  exact (Below.heap_setCell _ _ _ _ hg).trans ((Below.heap_setCell _ _ _ _ hg).trans ((Below.heap_setCell _ _ _ _ hg).trans ((Below.heap_setCell _ _ _ _ hg).trans ((Below.heap_setCell _ _ _ _ hg).trans ((Below.heap_setCell _ _ _ _ hg).trans ((Below.heap_setCell _ _ _ _ hg).trans ((Below.heap_setCell _ _ _ _ hg).trans ((Below.heap_setCell _ _ _ _ hg).trans (Below.heap_setCell _ _ _ _ hg)))))))))

theorem ten_below {w W : World} {b : Nat} (hb : w.heap.size ≤ b) (h : Below w.heap.size w W) (y0 y1 y2 y3 y4 y5 y6 y7 y8 y9 : Value) :
    Below w.heap.size w ((((((((((W.setCell ⟨b, 0, none⟩ y0).setCell ⟨b, 1, none⟩ y1).setCell ⟨b, 2, none⟩ y2).setCell ⟨b, 3, none⟩ y3).setCell ⟨b, 4, none⟩ y4).setCell ⟨b, 5, none⟩ y5).setCell ⟨b, 6, none⟩ y6).setCell ⟨b, 7, none⟩ y7).setCell ⟨b, 8, none⟩ y8).setCell ⟨b, 9, none⟩ y9) :=
  bgoSet (bgoSet (bgoSet (bgoSet (bgoSet (bgoSet (bgoSet (bgoSet (bgoSet (bgoSet h hb _) hb _) hb _) hb _) hb _) hb _) hb _) hb _) hb _) hb _

/-- As PHeap, its slices in blocks of their own. -/
def POneH (k : Nat) (w : World) (e : Ending) (w' : World) : Prop :=
  ∃ a b c, e = .returned (hv (oneH k) a b c) ∧ w'.ownsRow w.heap.size 36 2 a 5 (pairCells (oneH k).wet) ∧ IntsAt w' b (oneH k).turns ∧ w'.ownsRow w.heap.size 104 3 c k (tripleCells (oneH k).readings) ∧ Below w.heap.size w w'

theorem one_own (k : Nat) (hk : k ≤ 2) (w : World) : Calls Try.prog 61 #[iv k] w (POneH k w) := by
  have hkI : (k : Int) ≤ 2 := by omega
  have hsl : ∀ b W, (Instr.slice 38 (.slice (some ⟨b, 0, none⟩) 2 2) none (some (.int .i64 (k : Int))) none).run Try.prog W = .ok (.slice (some ⟨b, 0, none⟩) k 2) W := fun b W => by
    have := run_slice_h (P := Try.prog) W 38 (some ⟨b, 0, none⟩) 2 2 (by kernel_rfl) .i64 (k : Int) (by omega) (by omega)
    rw [this]
    simp [go_sem, sliced]
  go_enter Try.func61, Try.ntmps61
  go_wp2_with fail
  obtain ⟨w2, hw2⟩ : ∃ w2, ((w.alloc (.cells #[iv 0, iv 0, iv 0, iv 0, iv 0, iv 0, iv 0, .slice none 0 0, .slice none 0 0, .slice none 0 0] 40)).alloc (.cells #[iv 1, iv 53, iv 1, iv 3, iv 70, iv 1] 104)) = w2 := ⟨_, rfl⟩
  have hB2 : Below w.heap.size w w2 := by rw [← hw2]; exact (by repeat (first | exact Below.refl _ _ | assumption | refine bgo ?_ (by assumption) | refine bgoAlloc ?_ _ | refine bgoDrew ?_ | refine bgoSet ?_ (by simp; omega) _))
  have hb0 : w2.heap[w.heap.size]? = some (.cells #[iv 0, iv 0, iv 0, iv 0, iv 0, iv 0, iv 0, .slice none 0 0, .slice none 0 0, .slice none 0 0] 40 (0, 0)) := by rw [← hw2]; exact (Below.heap_alloc _ _ _ (by first | omega | (simp; done) | (simp; omega))).trans (heap_new0 _ _)
  have hb1 : w2.heap[w.heap.size + 1]? = some (.cells #[iv 1, iv 53, iv 1, iv 3, iv 70, iv 1] 104 (0, 0)) := by rw [← hw2]; exact heap_new1 _ _ _
  rw [hw2]
  have s0 := (Array.getElem?_eq_some_iff.1 hb0).1
  have s1 := (Array.getElem?_eq_some_iff.1 hb1).1
  have HB := Lib.hid hB2
  have HB01 := Lib.hid (And.intro hb0 hb1)
  clear hw2 hB2 hb0 hb1
  refine wp_region_rg 11 [] none [(0, Spec.val (rv (30, 32))), (1, Spec.val (rv (10, 12))), (2, Spec.val (rv (10, 10))), (3, Spec.val (rv (12, 12))), (4, Spec.val (rv (8, 9))), (5, Spec.val (rv (10, 10))), (6, Spec.slice w2.heap.size #[iv 10, iv 12, iv 10, iv 10, iv 12, iv 12, iv 8, iv 9, iv 10, iv 10] 36 5)] (by kernel_rfl) (by kernel_rfl) ?_
  simp only [List.take_succ_cons, List.take_zero, List.drop_succ_cons, List.drop_zero]
  refine tree_val _ (by rfl) (by rfl) 63 _ (fun W hW => by go_simp; try rfl) (fun W hE hF => by exact between_any 30 32 W) ?_
  simp only [Act.put, List.setIfInBounds_toArray, List.set_cons_succ, List.set_cons_zero]
  refine tree_val _ (by rfl) (by rfl) 63 _ (fun W hW => by go_simp; try rfl) (fun W hE hF => by exact between_any 10 12 W) ?_
  simp only [Act.put, List.setIfInBounds_toArray, List.set_cons_succ, List.set_cons_zero]
  refine tree_val _ (by rfl) (by rfl) 63 _ (fun W hW => by go_simp; try rfl) (fun W hE hF => by exact between_any 10 10 W) ?_
  simp only [Act.put, List.setIfInBounds_toArray, List.set_cons_succ, List.set_cons_zero]
  refine tree_val _ (by rfl) (by rfl) 63 _ (fun W hW => by go_simp; try rfl) (fun W hE hF => by exact between_any 12 12 W) ?_
  simp only [Act.put, List.setIfInBounds_toArray, List.set_cons_succ, List.set_cons_zero]
  refine tree_val _ (by rfl) (by rfl) 63 _ (fun W hW => by go_simp; try rfl) (fun W hE hF => by exact between_any 8 9 W) ?_
  simp only [Act.put, List.setIfInBounds_toArray, List.set_cons_succ, List.set_cons_zero]
  refine tree_val _ (by rfl) (by rfl) 63 _ (fun W hW => by go_simp; try rfl) (fun W hE hF => by exact between_any 10 10 W) ?_
  simp only [Act.put, List.setIfInBounds_toArray, List.set_cons_succ, List.set_cons_zero]
  refine tree_slice w2.heap.size _ _ _ (by rfl) (Nat.le_refl _) (by rfl) (by simp) (by simp) (fun W hW => by go_simp; try rfl) (fun b6 => ?_)
  simp only [Act.put, List.setIfInBounds_toArray, List.set_cons_succ, List.set_cons_zero]
  repeat (refine tree_det (by rfl) _ (by rfl) (fun W hW => by go_simp; (try simp (disch := omega) only [IntWalk.i64_in, Int.tdiv_eq_ediv_of_nonneg]); try rfl) ?_; simp only [Act.put, List.setIfInBounds_toArray, List.set_cons_succ, List.set_cons_zero])
  intro W hE hF
  have hE' : Ext [] w2 W := hE
  obtain ⟨b', hb, hbB, hblk⟩ := hF _ (List.Mem.head _)
  cases hb
  have hb0 := (hE'.block _ s0 (by simp)).trans HB01.out.1
  have hb1 := (hE'.block _ s1 (by simp)).trans HB01.out.2
  have t0 := (Array.getElem?_eq_some_iff.1 hb0).1
  have hc0 : ∀ i, W.cell? ⟨w.heap.size, i, none⟩ = (#[iv 0, iv 0, iv 0, iv 0, iv 0, iv 0, iv 0, .slice none 0 0, .slice none 0 0, .slice none 0 0] : Array Value)[i]? := fun i => by
    simp only [World.cell?, hb0]; rfl
  have hf0 := fun k => frozen_of_block hb0 k
  have HX := Lib.hid (And.intro hb0 (And.intro hb1 (And.intro hblk (bgo HB.out hE'.below))))
  have hbne : ¬ b6 = w.heap.size := by omega
  clear hE hF hE' hblk hb0 hb1
  go_wp2_with fail
  refine bodyPost_ret (v := hv (oneH k) (.slice (some ⟨b6, 0, none⟩) 5 5) (.slice none 0 0) (.slice (some ⟨w.heap.size + 1, 0, none⟩) k 2)) (results_cell_row Try.results61 _ _ w.heap.size _ _ (0, 0) _ rfl (set_ten HX.out.1 _ _ _ _ _ _ _ _ _ _) Try.underlying40 rfl (by kernel_rfl)) rfl ?_
  refine ⟨_, _, _, rfl, ?_, ints_nil _, ?_, ?_⟩
  · refine owns_keep (w := W) (owns_block HX.out.2.2.1 rfl (by have := HB.out.size; omega) (by decide)) (fun g hg => ?_)
    have hgb : b6 = g := by simpa [Value.ownBlock] using hg
    subst hgb
    exact ten_other hbne _ _ _ _ _ _ _ _ _ _
  · refine owns_keep (w := W) ?_ (fun g hg => ?_)
    · have hb1 := HX.out.2.1
      clear HX hc0 hf0 hkI hsl
      obtain rfl | rfl | rfl : k = 0 ∨ k = 1 ∨ k = 2 := by omega
      · exact ⟨rfl, .inr ⟨w.heap.size + 1, 2, _, rfl, by omega, hb1, by omega, by decide, rfl, rfl⟩⟩
      · exact ⟨rfl, .inr ⟨w.heap.size + 1, 2, _, rfl, by omega, hb1, by omega, by decide, rfl, rfl⟩⟩
      · exact ⟨rfl, .inr ⟨w.heap.size + 1, 2, _, rfl, by omega, hb1, by omega, by decide, rfl, rfl⟩⟩
    · have hgb : w.heap.size + 1 = g := by simpa [Value.ownBlock] using hg
      subst hgb
      exact ten_other (by omega) _ _ _ _ _ _ _ _ _ _
  · exact ten_below (Nat.le_refl _) HX.out.2.2.2 _ _ _ _ _ _ _ _ _ _

theorem one_any (k : Nat) (hk : k ≤ 2) (w : World) : Calls Try.prog 61 #[iv k] w (PHeap (oneH k) w) := by
  refine (one_own k hk w).mono ?_
  rintro e w' ⟨a, b, c, rfl, h1, h2, h3, hb⟩
  refine ⟨a, b, c, rfl, SlAt.of_owns h1, h2, ?_, hb⟩
  have h := SlAt.of_owns h3
  clear h1 h2 h3 hb
  obtain rfl | rfl | rfl : k = 0 ∨ k = 1 ∨ k = 2 := by omega
  · exact h
  · exact h
  · exact h

end Go.Proofs.Ytoibfafmnaooaaa
