/-
  Contracts of the law of package weed: to, Field, IsRows.
-/
import Derived.WalkKit
import Derived.WalkLawsBesides
import Derived.WalkSpells
import Derived.Outline
import Derived.Handy
import Derived.KernelRfl
import Derived.Lib.Hide
import Derived.Deep.Cut
import Derived.Test.YtdjgikcnmokjkaaRE
namespace Go.Proofs.Ytdjgikcnmokjkaa
open Go.RowKit Go.RG Go.SL Go.Shelf Cou Go.TB
set_option maxHeartbeats 400000
set_option maxRecDepth 10000

theorem set_five {w : World} {b : Nat} {t : TypeId} {fr : Nat × Nat} {a0 a1 a2 a3 a4 : Value} (h : w.heap[b]? = some (.cells #[a0, a1, a2, a3, a4] t fr)) (y0 y1 y2 y3 y4 : Value) :
    (((((w.setCell ⟨b, 0, none⟩ y0).setCell ⟨b, 1, none⟩ y1).setCell ⟨b, 2, none⟩ y2).setCell ⟨b, 3, none⟩ y3).setCell ⟨b, 4, none⟩ y4).heap[b]? = some (.cells #[y0, y1, y2, y3, y4] t fr) := by
  have := (set_block (o := 4) (set_block (o := 3) (set_block (o := 2) (set_block (o := 1) (set_block (o := 0) h y0) y1) y2) y3) y4)
  simpa using this
theorem five_other {W : World} {b g : Nat} (hg : g ≠ b) (y0 y1 y2 y3 y4 : Value) :
    (((((W.setCell ⟨b, 0, none⟩ y0).setCell ⟨b, 1, none⟩ y1).setCell ⟨b, 2, none⟩ y2).setCell ⟨b, 3, none⟩ y3).setCell ⟨b, 4, none⟩ y4).heap[g]? = W.heap[g]? := by
  exact (Below.heap_setCell _ _ _ _ hg).trans ((Below.heap_setCell _ _ _ _ hg).trans ((Below.heap_setCell _ _ _ _ hg).trans ((Below.heap_setCell _ _ _ _ hg).trans (Below.heap_setCell _ _ _ _ hg))))
theorem five_below {w W : World} {b : Nat} (hb : w.heap.size ≤ b) (h : Below w.heap.size w W) (y0 y1 y2 y3 y4 : Value) :
    Below w.heap.size w (((((W.setCell ⟨b, 0, none⟩ y0).setCell ⟨b, 1, none⟩ y1).setCell ⟨b, 2, none⟩ y2).setCell ⟨b, 3, none⟩ y3).setCell ⟨b, 4, none⟩ y4) :=
  bgoSet (bgoSet (bgoSet (bgoSet (bgoSet h hb _) hb _) hb _) hb _) hb _

theorem rto_any (r : Rng) (w : World) : Calls Try.prog 38 #[rv r] w (PV (rv r) w) := by
  go_enter Try.func38, Try.ntmps38
  go_wp2
  all_goals
    (try simp only [Exit.inBlock, Exit.then])
    refine bodyPost_ret (v := rv r) (by simp [results, Try.results38, go_sem]; try omega) rfl ?_
    exact ⟨rfl, (by repeat (first | exact Below.refl _ _ | assumption | refine bgo ?_ (by assumption) | refine bgoAlloc ?_ _ | refine bgoDrew ?_ | refine bgoSet ?_ (by simp; omega) _))⟩

theorem tTally : SliceT Try.prog 34 77 (tlyv (0, 0, 0, (0, 0))) 5 40 := ⟨Try.underlying34, by kernel_rfl, rfl, by omega⟩
theorem tlyCells_snoc (R : List Tly) (r : Tly) : tlyCells (R ++ [r]) = tlyCells R ++ tlyCells [r] := by simp [tlyCells]

/-- A field by value that reads as f, in a world; nothing that was there has turned. -/
def PField (f : FieldD) (w : World) (e : Ending) (w' : World) : Prop := ∃ tv, e = .returned (fv f tv) ∧ TalliesAt w' tv f.tallies ∧ Below w.heap.size w w'

theorem rField_any (f : FieldD) (tv : Value) (w : World) (ht : TalliesAt w tv f.tallies) (hl : f.tallies.length ≤ 1000) :
    Calls Try.prog 9 #[fv f tv] w (PField f w) := by
  obtain ⟨to, tc, rfl⟩ := ht.open
  have HT := Lib.hid ht
  clear ht
  go_enter Try.func9, Try.ntmps9
  go_upto_region 1 with (fail)
  refine gworld fun W1 hW1 => ?_
  have HB1 := Lib.hid (show Below w.heap.size w W1 from by rw [hW1]; exact (by repeat (first | exact Below.refl _ _ | assumption | refine bgo ?_ (by assumption) | refine bgoAlloc ?_ _ | refine bgoDrew ?_ | refine bgoSet ?_ (by simp; omega) _)))
  have hA0 : W1.heap[w.heap.size]? = some (.cells (rfcells f (.slice to f.tallies.length tc)) 26 (0, 0)) := by rw [hW1]; exact (Below.heap_alloc _ _ _ (by first | omega | (simp; done) | (simp; omega))).trans (heap_new0 _ _)
  have hA1 : W1.heap[w.heap.size + 1]? = some (.cells #[iv 0, iv 0, iv 0, iv 0, .slice none 0 0] 36 (0, 0)) := by rw [hW1]; exact heap_new1 _ _ _
  have s0 := (Array.getElem?_eq_some_iff.1 hA0).1
  have s1 := (Array.getElem?_eq_some_iff.1 hA1).1
  have hcr := (cells_of_block hA0).1
  have HA := Lib.hid (And.intro hA0 hA1)
  clear hA0 hA1 hW1
  refine wp_region_rg 9 [] none [(6, Spec.val (rv f.left)), (8, Spec.block W1.heap.size #[iv 0, iv 0, iv 0, iv 0, .slice none 0 0] 36)] (by kernel_rfl) (by kernel_rfl) ?_
  simp only [List.take_succ_cons, List.take_zero, List.drop_succ_cons, List.drop_zero]
  repeat (first | (refine tree_det (by rfl) _ (by rfl) (fun W hW => by go_simp; (try simp (disch := omega) only [IntWalk.i64_in]); try rfl) ?_; simp only [Act.put, List.setIfInBounds_toArray, List.set_cons_succ, List.set_cons_zero]) | (refine tree_skip (by rfl) (by rfl) ?_; simp only [Act.put, List.setIfInBounds_toArray, List.set_cons_succ, List.set_cons_zero]))
  refine tree_val _ (by rfl) (by rfl) 38 _ (fun W hW => by go_simp; try rfl) (fun W hE hF => by exact rto_any f.left W) ?_
  simp only [Act.put, List.setIfInBounds_toArray, List.set_cons_succ, List.set_cons_zero]
  repeat (first | (refine tree_det (by rfl) _ (by rfl) (fun W hW => by go_simp; (try simp (disch := omega) only [IntWalk.i64_in]); try rfl) ?_; simp only [Act.put, List.setIfInBounds_toArray, List.set_cons_succ, List.set_cons_zero]) | (refine tree_skip (by rfl) (by rfl) ?_; simp only [Act.put, List.setIfInBounds_toArray, List.set_cons_succ, List.set_cons_zero]))
  refine tree_block W1.heap.size _ _ (by rfl) (Nat.le_refl _) (by rfl) (by simp) (by simp) (fun W hW => by go_simp; try rfl) (fun b3 => ?_)
  simp only [Act.put, List.setIfInBounds_toArray, List.set_cons_succ, List.set_cons_zero]
  intro W2 hE hF
  have hE' : Ext [] W1 W2 := hE
  obtain ⟨b3', hb3, hbB, hblk⟩ := hF _ (List.Mem.head _)
  cases hb3
  have hB2 := bgo HB1.out hE'.below
  have hs2 := hE'.size
  have hA2 : W2.heap[w.heap.size]? = some (.cells (rfcells f (.slice to f.tallies.length tc)) 26 (0, 0)) := (hE'.block _ s0 (by simp)).trans HA.out.1
  have hA3 : W2.heap[w.heap.size + 1]? = some (.cells #[iv 0, iv 0, iv 0, iv 0, .slice none 0 0] 36 (0, 0)) := (hE'.block _ s1 (by simp)).trans HA.out.2
  have HA2 := Lib.hid (And.intro hA2 (And.intro hA3 (And.intro hblk hB2)))
  obtain ⟨hc3, hf3, hl3⟩ := cells_of_block hblk
  have hb3w : w.heap.size + 2 ≤ b3 := by omega
  clear hE hF hE' hblk hA2 hA3 hB2 hcr s0 s1
  go_upto_region 2 with (fail)
  refine gworld fun W3 hW3 => ?_
  have hblk3 : W3.heap[b3]? = some (.cells #[iv f.rows, iv f.weeders, iv f.left.1, iv f.left.2, .slice none 0 0] 36 (0, 0)) := by rw [hW3]; exact set_five HA2.out.2.2.1 _ _ _ _ _
  have hot3 : ∀ g, g ≠ b3 → W3.heap[g]? = W2.heap[g]? := fun g hg => by rw [hW3]; exact five_other hg _ _ _ _ _
  have hB3 : Below w.heap.size w W3 := by rw [hW3]; exact five_below (by omega) HA2.out.2.2.2 _ _ _ _ _
  have hb33 : b3 < W3.heap.size := (Array.getElem?_eq_some_iff.1 hblk3).1
  have HA3 := Lib.hid (And.intro ((hot3 w.heap.size (by omega)).trans HA2.out.1) (And.intro ((hot3 (w.heap.size + 1) (by omega)).trans HA2.out.2.1) (And.intro hblk3 hB3)))
  clear hW3 hblk3 hot3 hB3 hc3 hf3 hl3 HA2 HA HB1 hs2
  go_wp2_with fail
  go_loopw [4] (fun u wq => ∃ k : Nat, k ≤ f.tallies.length ∧ u = .int .i64 k ∧ ∃ o2 c2, wq.heap[b3]? = some (.cells (fcells f (.slice o2 k c2)) 36 (0, 0)) ∧
      wq.ownsRow W3.heap.size 77 5 (.slice o2 k c2) k (tlyCells (f.tallies.take k)) ∧ Below w.heap.size w wq ∧ W3.heap.size ≤ wq.heap.size ∧ ∀ c, c < W3.heap.size → c ≠ b3 → wq.heap[c]? = W3.heap[c]?) (fun u _ => f.tallies.length - (intOf u).toNat)
  case atStart => exact ⟨0, Nat.zero_le _, rfl, none, 0, HA3.out.2.2.1, ⟨rfl, .inl ⟨rfl, rfl⟩⟩, HA3.out.2.2.2, Nat.le_refl _, fun _ _ _ => rfl⟩
  case round =>
    obtain ⟨k, hk, rfl, o2, c2, hblk, hown, hB, hsw, hkeep⟩ := hrel
    have ha0 := (hkeep w.heap.size (by omega) (by omega)).trans HA3.out.1
    obtain ⟨hcr0, hfr0, hsr0⟩ := cells_of_block ha0
    obtain ⟨hcr2, hfr2, hsr2⟩ := cells_of_block hblk
    have hHX := HT.out.below hB (Nat.le_refl _)
    have HK := Lib.hid (And.intro hblk (And.intro hown (And.intro hB (And.intro hsw hkeep))))
    have HA0 := Lib.hid ha0
    clear hblk hown hB hkeep ha0
    by_cases hlk : k < f.tallies.length
    · obtain ⟨b, off, rfl, hb1, d0, d1, d2, d3, d4⟩ := TalliesAt.cell hHX hlk
      have hltI : (k : Int) < f.tallies.length := by omega
      have htk : tlyCells (f.tallies.take (k + 1)) = tlyCells (f.tallies.take k) ++ tlyCells [f.tallies[k]] := by
        rw [List.take_succ_eq_append_getElem hlk, tlyCells_snoc]
      clear hHX
      generalize f.tallies[k] = x at *
      obtain ⟨x0, x1, x2, x3, x4⟩ := x
      simp only at d0 d1 d2 d3 d4
      have HTK := Lib.hid htk
      clear htk
      go_upto_region 6 with (fail)
      refine gworld fun W5 hW5 => ?_
      have hB5 : Below wr.heap.size wr W5 := by rw [hW5]; exact (by repeat (first | exact Below.refl _ _ | assumption | refine bgo ?_ (by assumption) | refine bgoAlloc ?_ _ | refine bgoDrew ?_ | refine bgoSet ?_ (by simp; omega) _))
      have hk5 : W5.heap[wr.heap.size]? = some (.cells #[iv x0, iv x1, iv x2, iv x3, iv x4] 81 (0, 0)) := by
        rw [hW5]
        first | exact heap_new0 _ _ | exact set_five (heap_new0 _ _) _ _ _ _ _
      have hkb := (hB5.block _ hsr2).trans HK.out.1
      have HK5 := Lib.hid (And.intro hB5 (And.intro hk5 hkb))
      clear hW5 hcr0 hfr0 hsr0 hcr2 hfr2 d0 d1 d2 d3 d4 hb1
      obtain ⟨e1, e2, e3⟩ := cells_of_block hk5
      obtain ⟨p1, p2, p3⟩ := cells_of_block hkb
      clear hB5 hk5 hkb
      refine wp_region_rg 13 [] none [(10, Spec.val (rv (x3, x4))), (12, Spec.slice W5.heap.size #[iv x0, iv x1, iv x2, iv x3, iv x4] 77 1)] (by kernel_rfl) (by kernel_rfl) ?_
      simp only [List.take_succ_cons, List.take_zero, List.drop_succ_cons, List.drop_zero]
      repeat (first | (refine tree_det (by rfl) _ (by rfl) (fun W hW => by go_simp; (try simp (disch := omega) only [IntWalk.i64_in]); try rfl) ?_; simp only [Act.put, List.setIfInBounds_toArray, List.set_cons_succ, List.set_cons_zero]) | (refine tree_skip (by rfl) (by rfl) ?_; simp only [Act.put, List.setIfInBounds_toArray, List.set_cons_succ, List.set_cons_zero]))
      refine tree_val _ (by rfl) (by rfl) 38 _ (fun W hW => by go_simp; try rfl) (fun W hE hF => by exact rto_any (x3, x4) W) ?_
      simp only [Act.put, List.setIfInBounds_toArray, List.set_cons_succ, List.set_cons_zero]
      repeat (first | (refine tree_det (by rfl) _ (by rfl) (fun W hW => by go_simp; (try simp (disch := omega) only [IntWalk.i64_in]); try rfl) ?_; simp only [Act.put, List.setIfInBounds_toArray, List.set_cons_succ, List.set_cons_zero]) | (refine tree_skip (by rfl) (by rfl) ?_; simp only [Act.put, List.setIfInBounds_toArray, List.set_cons_succ, List.set_cons_zero]))
      refine tree_slice W5.heap.size _ _ _ (by rfl) (Nat.le_refl _) (by rfl) (by simp) (by simp) (fun W hW => by go_simp; try rfl) (fun b8 => ?_)
      simp only [Act.put, List.setIfInBounds_toArray, List.set_cons_succ, List.set_cons_zero]
      intro W6 hE6 hF6
      have hE6' : Ext [] W5 W6 := hE6
      obtain ⟨b8', hb8, hbB8, hblk8⟩ := hF6 _ (List.Mem.head _)
      cases hb8
      have hE06 : Ext [] wr W6 := (Ext.of_below HK5.out.1).trans hE6'
      have HE6 := Lib.hid hE06
      have HBK := Lib.hid hblk8
      have HOW6 := Lib.hid (owns_ext (Ms := []) HK.out.2.1 hE06 (by simp))
      have hz6 := hE06.size
      clear hE6 hF6 hE6' hblk8 hE06 e1 e2 e3 p1 p2 p3
      go_wp2_with (at_builtin; go_loud (refine wpList_append_at rfl _ _ tTally rfl W3.heap.size (.slice o2 k c2) k (tlyCells (f.tallies.take k)) rfl HOW6.out (.slice (some ⟨b8, 0, none⟩) 1 1) 1 (tlyCells [(x0, x1, x2, (x3, x4))]) rfl (SlAt.of_block 5 1 HBK.out rfl (by decide)) (one_tallies _) (by omega) (by omega) (by omega) ?_))
      intro v' W7 hown7 hgr7 _
      obtain ⟨o7, c7, rfl⟩ := owns_slice hown7
      have HP := Lib.hid (ap_push (i := 4) (u := .slice o7 (k + 1) c7) HK.out.2.2.1 HK.out.2.1 HE6.out hown7 hgr7 hsw hb33 (by omega) HK.out.1)
      obtain ⟨hcr7, hfr7, hsr7⟩ := cells_of_block (((ap_push0 HK.out.2.2.1 HK.out.2.1 HE6.out hown7 hgr7 (by omega) hsw).2.2 b3 hb33).trans HK.out.1)
      clear hown7 hgr7
      go_wp2_with fail
      go_roundw
      case rel =>
        refine ⟨k + 1, by omega, by go_num, o7, c7, ?_⟩
        rw [HTK.out]
        exact ⟨HP.out.2.2.2.1, HP.out.2.2.1, HP.out.1, HP.out.2.1, fun c hc hne => (HP.out.2.2.2.2 c hc hne).trans (HK.out.2.2.2.2 c hc hne)⟩
      case measure => simp [intOf]; omega
    · obtain rfl : k = f.tallies.length := by omega
      clear hHX
      have hres := (HK.out.2.2.2.2 (w.heap.size + 1) (by omega) (by omega)).trans HA3.out.2.1
      obtain ⟨hcr1, hfr1, hsr1⟩ := cells_of_block hres
      have HRES := Lib.hid hres
      clear hres
      go_wp2_with fail
      refine bodyPost_ret (v := fv f (.slice o2 f.tallies.length c2)) (results_cell_row Try.results9 _ _ (w.heap.size + 1) _ _ (0, 0) _ rfl (set_five HRES.out _ _ _ _ _) Try.underlying36 rfl (by kernel_rfl)) rfl ?_
      refine ⟨_, rfl, ?_, five_below (by omega) HK.out.2.2.1 _ _ _ _ _⟩
      have := HK.out.2.1
      rw [List.take_length] at this
      refine SlAt.of_owns (owns_keep this fun g hg => five_other ?_ _ _ _ _ _)
      have := (owns_ge HK.out.2.1 g hg).1
      omega

end Go.Proofs.Ytdjgikcnmokjkaa
