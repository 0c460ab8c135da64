/-
  Contracts of the reference: IsTruth; of the law: Truth.
-/
import Derived.WalkKit
import Derived.WalkLawsBesides
import Derived.WalkSpells
import Derived.Outline
import Derived.Handy
import Derived.KernelRfl
import Derived.Lib.Hide
import Derived.Test.YtoibfafmnaooaaaR9
namespace Go.Proofs.Ytoibfafmnaooaaa
open Go.RowKit Go.RG Go.SL Go.Shelf Cou
set_option maxHeartbeats 400000
set_option maxRecDepth 10000

set_option maxHeartbeats 2000000 in
theorem IsTruth_any (h : HeapD) (hS : Sound h) (wv tv xv' uv : Value) (t : Int × List Int) (w : World) (hw : PairsAt w wv h.wet) (ht : IntsAt w tv h.turns) (hx : TriplesAt w xv' h.readings) (hu : IntsAt w uv t.2) :
    Calls Try.prog 57 #[hv h wv tv xv', .agg #[iv t.1, uv]] w (PV (.bool (isTruth h t)) w) := by
  have hlen1 := hw.len
  have hlen2 := hu.len
  have hlen3 := hx.len
  obtain ⟨ow, cw, rfl⟩ := hw.open
  obtain ⟨ot, ct, rfl⟩ := ht.open
  obtain ⟨ox, cx, rfl⟩ := hx.open
  have HW := Lib.hid hw
  have HT := Lib.hid ht
  have HX := Lib.hid hx
  clear hw ht hx
  obtain ⟨ou, cu, rfl⟩ := hu.open
  have HU := Lib.hid hu
  clear hu
  obtain ⟨q, hq⟩ : ∃ q, isTruth h t = q := ⟨_, rfl⟩
  rw [hq]
  have HQ := Lib.hid hq
  clear hq
  have hlb := listedB_eq hS.wetLen t
  cases hl : listedT h t
  · obtain rfl : q = false := by rw [← HQ.out]; simp [isTruth, hl]
    rw [hl] at hlb
    have HLB := Lib.hid hlb
    clear hlb hl hS
    go_enter Try.func57, Try.ntmps57
    go_wp2_with fail
    refine (IsListed_any h _ _ _ _ t _ ((HW.out.alloc _).alloc _) ((HT.out.alloc _).alloc _) ((HX.out.alloc _).alloc _) ((HU.out.alloc _).alloc _)).mono ?_
    rw [HLB.out]
    rintro e W1 ⟨rfl, hb1⟩
    have HB := Lib.hid hb1
    clear hb1
    go_wp2_with fail
    go_returns
    exact ⟨by simp, bgo (bgoAlloc (bgoAlloc (Below.refl _ _) _) _) HB.out⟩
  · rw [hl] at hlb
    have HLB := Lib.hid hlb
    have HL := Lib.hid hl
    have HS := Lib.hid hS
    have HO := Lib.hid (heatOk_of hS hl)
    have h9 := hS.last9
    clear hlb hl hS
    go_enter Try.func57, Try.ntmps57
    go_wp2_with fail
    refine (IsListed_any h _ _ _ _ t _ ((HW.out.alloc _).alloc _) ((HT.out.alloc _).alloc _) ((HX.out.alloc _).alloc _) ((HU.out.alloc _).alloc _)).mono ?_
    rw [HLB.out]
    rintro e W1 ⟨rfl, hb1⟩
    have HB1 := Lib.hid (show Below w.heap.size w W1 from bgo (bgoAlloc (bgoAlloc (Below.refl _ _) _) _) hb1)
    have HX1 := Lib.hid (show W1.heap[w.heap.size]? = some (.cells #[.int .i64 h.last, .int .i64 h.size, .int .i64 h.cool, .int .i64 h.die, .int .i64 h.burn, .int .i64 h.start.1, .int .i64 h.start.2, .slice ow h.wet.length cw, .slice ot h.turns.length ct, .slice ox h.readings.length cx] 28 (0, 0)) from (hb1.block _ (by simp; omega)).trans ((Below.heap_alloc _ _ _ (by simp)).trans (heap_new0 _ _)))
    have HX2 := Lib.hid (show W1.heap[w.heap.size + 1]? = some (.cells #[iv t.1, .slice ou t.2.length cu] 66 (0, 0)) from (hb1.block _ (by simp)).trans (heap_new1 _ _ _))
    clear hb1
    go_wp2_with fail
    go_loopw [5] (fun u wr => ∃ k : Nat, k ≤ h.readings.length ∧ u = .int .i64 k ∧ Below W1.heap.size W1 wr ∧ ∀ j, j < k → rightR (h.readings.getD j (0, 0, 0)) (heats h t h.turns) = true) (fun u _ => h.readings.length - (intOf u).toNat)
    case atStart => exact ⟨0, Nat.zero_le _, rfl, Below.refl _ _, fun j hj => by omega⟩
    case round =>
      obtain ⟨k, hk, rfl, hB, hno⟩ := hrel
      obtain ⟨hx1c, _, hx1s⟩ := cells_of_block ((hB.block _ (cells_of_block HX1.out).2.2).trans HX1.out)
      obtain ⟨hx2c, _, hx2s⟩ := cells_of_block ((hB.block _ (cells_of_block HX2.out).2.2).trans HX2.out)
      have hHX := (HX.out.below HB1.out (Nat.le_refl _)).below hB (Nat.le_refl _)
      have HHU := Lib.hid ((HU.out.below HB1.out (Nat.le_refl _)).below hB (Nat.le_refl _))
      have HHT := Lib.hid ((HT.out.below HB1.out (Nat.le_refl _)).below hB (Nat.le_refl _))
      have HN := Lib.hid (And.intro hno hB)
      clear hno hB
      by_cases hlt : k < h.readings.length
      · obtain ⟨b1, off, rfl, hb1, d1, d2, d3⟩ := TriplesAt.cell hHX hlt
        have hltI : (k : Int) < h.readings.length := by omega
        have g1 : h.readings.getD k (0, 0, 0) = h.readings[k] := by simp [List.getD, hlt]
        have hre := right_eq HS.out HL.out (List.getElem_mem hlt)
        have hrd := HS.out.rdg _ (List.getElem_mem hlt)
        have hlo := listed_of HS.out HL.out
        have hwl := HS.out.wetLen
        clear hHX
        generalize h.readings[k] = x at *
        have HG := Lib.hid g1
        have HRD := Lib.hid (show (0 ≤ x.1 ∧ x.1 < t.2.length) ∧ x.1 < 12 ∧ (0 ≤ x.2.1 ∧ x.2.1 ≤ 1000) ∧ 0 ≤ x.2.2 ∧ x.2.2 ≤ 50 from ⟨⟨hrd.1.1, by omega⟩, by omega, hrd.2.1, hrd.2.2⟩)
        have HRE := Lib.hid hre
        clear g1 hre hrd hlo hwl
        cases hxy : rightB h t x
        · obtain rfl : q = false := by
            rw [← HQ.out]
            simp only [isTruth, Bool.and_eq_false_iff]
            right
            rw [List.all_eq_false]
            refine ⟨_, List.getElem_mem hlt, ?_⟩
            have := HG.out
            rw [show h.readings.getD k (0, 0, 0) = h.readings[k] from by simp [List.getD, hlt]] at this
            rw [this, ← HRE.out, hxy]
            simp
          go_wp2_with fail
          refine wp_region_rg 9 [] none [(7, Spec.val (.bool false))] (by kernel_rfl) (by kernel_rfl) ?_
          simp only [List.take_succ_cons, List.take_zero, List.drop_succ_cons, List.drop_zero]
          repeat (first | (refine tree_det (by rfl) _ (by rfl) (fun W hW => by go_simp; (try simp (disch := omega) only [IntWalk.i64_in]); try rfl) ?_; simp only [Act.put, List.setIfInBounds_toArray, List.set_cons_succ, List.set_cons_zero]) | (refine tree_skip (by rfl) (by rfl) ?_; simp only [Act.put, List.setIfInBounds_toArray, List.set_cons_succ, List.set_cons_zero]))
          refine tree_val _ (by rfl) (by rfl) 74 _ (fun W hW => by go_simp; try rfl) (fun W hE hF => by exact by have := Right_any h ow (some ⟨b1, off, none⟩) h.wet.length cw h.readings.length cx (.slice ot h.turns.length ct) t HO.out (.slice ou t.2.length cu) x W (HHU.out.below (Ext.below (show Ext [] wr W from hE)) (Nat.le_refl _)) (HHT.out.below (Ext.below (show Ext [] wr W from hE)) (Nat.le_refl _)) HRD.out.1.1 HRD.out.1.2 HRD.out.2.1 HRD.out.2.2.1.1 HRD.out.2.2.1.2 HRD.out.2.2.2.1 HRD.out.2.2.2.2; rw [hxy] at this; exact this) ?_
          simp only [Act.put, List.setIfInBounds_toArray, List.set_cons_succ, List.set_cons_zero]
          repeat (first | (refine tree_det (by rfl) _ (by rfl) (fun W hW => by go_simp; (try simp (disch := omega) only [IntWalk.i64_in]); try rfl) ?_; simp only [Act.put, List.setIfInBounds_toArray, List.set_cons_succ, List.set_cons_zero]) | (refine tree_skip (by rfl) (by rfl) ?_; simp only [Act.put, List.setIfInBounds_toArray, List.set_cons_succ, List.set_cons_zero]))
          intro W hE hF
          obtain ⟨hc, hf⟩ := bcell hE.below
          have hzE := hE.size
          (try simp only [World.size_alloc] at hzE)
          have HE := Lib.hid hE
          clear hE hF
          go_wp2_with fail
          go_returns
          exact ⟨by simp, bgo HB1.out (bgo HN.out.2 HE.out.below)⟩
        · go_wp2_with fail
          refine wp_region_rg 9 [] none [(7, Spec.val (.bool true))] (by kernel_rfl) (by kernel_rfl) ?_
          simp only [List.take_succ_cons, List.take_zero, List.drop_succ_cons, List.drop_zero]
          repeat (first | (refine tree_det (by rfl) _ (by rfl) (fun W hW => by go_simp; (try simp (disch := omega) only [IntWalk.i64_in]); try rfl) ?_; simp only [Act.put, List.setIfInBounds_toArray, List.set_cons_succ, List.set_cons_zero]) | (refine tree_skip (by rfl) (by rfl) ?_; simp only [Act.put, List.setIfInBounds_toArray, List.set_cons_succ, List.set_cons_zero]))
          refine tree_val _ (by rfl) (by rfl) 74 _ (fun W hW => by go_simp; try rfl) (fun W hE hF => by exact by have := Right_any h ow (some ⟨b1, off, none⟩) h.wet.length cw h.readings.length cx (.slice ot h.turns.length ct) t HO.out (.slice ou t.2.length cu) x W (HHU.out.below (Ext.below (show Ext [] wr W from hE)) (Nat.le_refl _)) (HHT.out.below (Ext.below (show Ext [] wr W from hE)) (Nat.le_refl _)) HRD.out.1.1 HRD.out.1.2 HRD.out.2.1 HRD.out.2.2.1.1 HRD.out.2.2.1.2 HRD.out.2.2.2.1 HRD.out.2.2.2.2; rw [hxy] at this; exact this) ?_
          simp only [Act.put, List.setIfInBounds_toArray, List.set_cons_succ, List.set_cons_zero]
          repeat (first | (refine tree_det (by rfl) _ (by rfl) (fun W hW => by go_simp; (try simp (disch := omega) only [IntWalk.i64_in]); try rfl) ?_; simp only [Act.put, List.setIfInBounds_toArray, List.set_cons_succ, List.set_cons_zero]) | (refine tree_skip (by rfl) (by rfl) ?_; simp only [Act.put, List.setIfInBounds_toArray, List.set_cons_succ, List.set_cons_zero]))
          intro W hE hF
          obtain ⟨hc, hf⟩ := bcell hE.below
          have hzE := hE.size
          (try simp only [World.size_alloc] at hzE)
          have HE := Lib.hid hE
          clear hE hF
          go_wp2_with fail
          go_roundw
          case rel =>
            refine ⟨k + 1, by omega, by go_num, bgo HN.out.2 HE.out.below, fun j hj => ?_⟩
            by_cases e : j = k
            · subst e; rw [HG.out, ← HRE.out]; exact hxy
            · exact HN.out.1 j (by omega)
          case measure => simp [intOf]; omega
      · have hkl : k = h.readings.length := by omega
        obtain rfl : q = true := by
          rw [← HQ.out]
          simp only [isTruth, Bool.and_eq_true]
          exact ⟨HL.out, all_of_at (d := (0, 0, 0)) (p := fun x => rightR x (heats h t h.turns)) fun j hj => HN.out.1 j (by omega)⟩
        clear hHX
        go_wp2_with fail
        go_returns
        exact ⟨by simp, bgo HB1.out HN.out.2⟩

/-- It returns a truth that reads so; nothing that was there has turned. -/
def PTruth (t : Int × List Int) (w : World) (e : Ending) (w' : World) : Prop := ∃ v, e = .returned (.agg #[iv t.1, v]) ∧ IntsAt w' v t.2 ∧ Below w.heap.size w w'

theorem Truth_any (t : Int × List Int) (uv : Value) (w : World) (hu : IntsAt w uv t.2) (hl : t.2.length ≤ 1000) : Calls Try.prog 41 #[.agg #[iv t.1, uv]] w (PTruth t w) := by
  obtain ⟨ou, cu, rfl⟩ := hu.open
  have HU := Lib.hid hu
  clear hu
  go_enter Try.func41, Try.ntmps41
  go_wp2_with fail
  refine gworld fun W1 hW1 => ?_
  have HB1 := Lib.hid (show Below w.heap.size w W1 from by rw [hW1]; exact (by repeat (first | exact Below.refl _ _ | assumption | refine bgo ?_ (by assumption) | refine bgoAlloc ?_ _ | refine bgoDrew ?_ | refine bgoSet ?_ (by simp; omega) _)))
  have HX1 := Lib.hid (show W1.heap[w.heap.size]? = some (.cells #[iv t.1, .slice ou t.2.length cu] 66 (0, 0)) from by rw [hW1]; exact (Below.heap_alloc _ _ _ (by first | omega | (simp; done) | (simp; omega))).trans (heap_new0 _ _))
  have HX2 := Lib.hid (show W1.heap[w.heap.size + 1]? = some (.cells #[iv 0, .slice none 0 0] 71 (0, 0)) from by rw [hW1]; exact heap_new1 _ _ _)
  obtain ⟨hc1, _, hs1⟩ := cells_of_block HX1.out
  have hs2 := (cells_of_block HX2.out).2.2
  clear hW1
  refine wp_region_rg 6 [] none [(4, ⟨fun _ v => ∃ o c, v = .slice o t.2.length c, fun _ v Wx => Wx.ownsRow W1.heap.size 3 1 v t.2.length (intCells t.2)⟩)] (by kernel_rfl) (by kernel_rfl) ?_
  simp only [List.take_succ_cons, List.take_zero, List.drop_succ_cons, List.drop_zero]
  repeat (first | (refine tree_det (by rfl) _ (by rfl) (fun W hW => by go_simp; (try simp (disch := omega) only [IntWalk.i64_in]); try rfl) ?_; simp only [Act.put, List.setIfInBounds_toArray, List.set_cons_succ, List.set_cons_zero]) | (refine tree_skip (by rfl) (by rfl) ?_; simp only [Act.put, List.setIfInBounds_toArray, List.set_cons_succ, List.set_cons_zero]))
  refine tree_some _ (by rfl) (by rfl) (by exact ⟨.slice none (t.2).length 0, none, 0, rfl⟩) (fun W hE hF => ?_) (fun v Wa Wb ho hE => owns_ext (Ms := []) ho hE (by simp)) (fun v hv => ?_)
  · have hE' : Ext [] W1 W := hE
    refine does_enter 22 #[.slice ou t.2.length cu] (by go_simp; try rfl) ?_
    refine (list_any (t.2) _ W ((HU.out.below HB1.out (Nat.le_refl _)).below hE'.below (Nat.le_refl _)) (by omega)).mono ?_
    rintro e W6 ⟨v, rfl, ho, hb⟩
    exact ⟨v, rfl, owns_slice ho, owns_base ho hE'.size, Ext.of_below hb⟩
  obtain ⟨o5, c5, rfl⟩ := hv
  simp only [Act.put, List.setIfInBounds_toArray, List.set_cons_succ, List.set_cons_zero]
  repeat (first | (refine tree_det (by rfl) _ (by rfl) (fun W hW => by go_simp; (try simp (disch := omega) only [IntWalk.i64_in]); try rfl) ?_; simp only [Act.put, List.setIfInBounds_toArray, List.set_cons_succ, List.set_cons_zero]) | (refine tree_skip (by rfl) (by rfl) ?_; simp only [Act.put, List.setIfInBounds_toArray, List.set_cons_succ, List.set_cons_zero]))
  intro W2 hE hF
  have hown : W2.ownsRow W1.heap.size 3 1 (.slice o5 t.2.length c5) t.2.length (intCells t.2) := hF _ (List.Mem.head _)
  have hE' : Ext [] W1 W2 := hE
  have hx2 := (hE'.block _ hs2 (by simp)).trans HX2.out
  obtain ⟨hc2, hf2, hs2'⟩ := cells_of_block hx2
  have HK := Lib.hid (And.intro hown (And.intro hE' hx2))
  clear hE hF hown hE' hx2
  go_wp2_with fail
  refine bodyPost_ret (v := .agg #[iv t.1, .slice o5 t.2.length c5]) (results_cell_row Try.results41 _ _ (w.heap.size + 1) _ _ (0, 0) _ rfl (set_block (set_block HK.out.2.2 _) _) Try.underlying71 rfl (by kernel_rfl)) rfl ?_
  refine ⟨_, rfl, ?_, bgoSet (bgoSet (bgo HB1.out HK.out.2.1.below) (by show w.heap.size ≤ w.heap.size + 1; omega) _) (by show w.heap.size ≤ w.heap.size + 1; omega) _⟩
  refine SlAt.of_owns (owns_keep HK.out.1 fun g hg => ?_)
  have := (owns_ge HK.out.1 g hg).1
  exact (Below.heap_setCell _ _ _ _ (by show g ≠ w.heap.size + 1; omega)).trans (Below.heap_setCell _ _ _ _ (by show g ≠ w.heap.size + 1; omega))

end Go.Proofs.Ytoibfafmnaooaaa
