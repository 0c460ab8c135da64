/-
  Contracts of the reference of package weed, second part: IsAllowed, IsTruth, Many, Fault.
-/
import Derived.WalkKit
import Derived.WalkLawsBesides
import Derived.WalkSpells
import Derived.Outline
import Derived.Handy
import Derived.KernelRfl
import Derived.Lib.Hide
import Derived.Deep.Cut
import Derived.Test.YtdjgikcnmokjkaaRA
namespace Go.Proofs.Ytdjgikcnmokjkaa
open Go.RowKit Go.RG Go.SL Go.Shelf Cou Go.TB
set_option maxHeartbeats 400000
set_option maxRecDepth 10000

abbrev rfcells (f : FieldD) (tv : Value) : Array Value := #[iv f.rows, iv f.weeders, iv f.left.1, iv f.left.2, tv]

theorem rIsAllowed_any (f : FieldD) (hS : SoundF f) (tv lv : Value) (l : List Int) (hl : l ∈ allF f) (w : World) (h : IntsAt w lv l) :
    Calls Try.prog 76 #[fv f tv, lv] w (PV (.bool (inB (doneF f l (-1)) f.left.1 f.left.2)) w) := by
  obtain ⟨hlen, hin⟩ := mem_allF.1 hl
  have hr0 := hS.rows0
  have hr1 := hS.rows1
  have hw0 := hS.weed0
  have hw1 := hS.weed1
  obtain ⟨o, c, rfl⟩ := h.open
  have hlr : (l.length : Int) = f.rows := by omega
  have HD := Lib.hid (fun W hb => rDid_any l (.slice o l.length c) (by omega) (-1) 0 (f.rows - 1) (by omega) (by omega) (by omega) W (SlAt.below h hb (Nat.le_refl w.heap.size)))
  have hd : didT l (-1) 0 (f.rows - 1) = doneF f l (-1) := rfl
  rw [hd] at HD
  generalize doneF f l (-1) = d at *
  have HL := Lib.hid h
  have HI := Lib.hid (fun i (hi : i < l.length) => hin i (by omega))
  have hleq : ((l.length : Int) == f.rows) = true := by simpa using hlr
  have hlb : l.length ≤ 7 := by omega
  have HLR := Lib.hid hlr
  obtain ⟨q, hq⟩ : ∃ q, inB d f.left.1 f.left.2 = q := ⟨_, rfl⟩
  have HQ := Lib.hid hq
  rw [hq]
  clear h hin hlen hlr hd hq hl
  go_enter Try.func76, Try.ntmps76
  go_wp2_with fail
  refine gworld fun W0 hW0 => ?_
  have hB0 : Below w.heap.size w W0 := by rw [hW0]; exact (by repeat (first | exact Below.refl _ _ | assumption | refine bgo ?_ (by assumption) | refine bgoAlloc ?_ _ | refine bgoDrew ?_ | refine bgoSet ?_ (by simp; omega) _))
  have hK0 : W0.heap[w.heap.size]? = some (.cells (rfcells f tv) 26 (0, 0)) := by rw [hW0]; exact heap_new0 _ _
  have H0 := Lib.hid (And.intro hB0 hK0)
  clear hW0 hB0 hK0
  go_loopw [5] (fun u wr => ∃ k : Nat, k ≤ l.length ∧ u = .int .i64 k ∧ Below W0.heap.size W0 wr) (fun u _ => l.length - (intOf u).toNat)
  case atStart => exact ⟨0, Nat.zero_le _, rfl, Below.refl _ _⟩
  case round =>
    obtain ⟨k, hk, rfl, hB⟩ := hrel
    have hBB := bgo H0.out.1 hB
    obtain ⟨c1, f1, l1⟩ := cells_of_block ((hB.block _ (cells_of_block H0.out.2).2.2).trans H0.out.2)
    have HB := Lib.hid (And.intro hB hBB)
    by_cases hlt : k < l.length
    · obtain ⟨g, off, rfl, hg, d1⟩ := IntsAt.cell (HL.out.below hBB (Nat.le_refl _)) hlt
      have hy := HI.out k hlt
      rw [show l.getD k 0 = l[k] from by simp [List.getD, hlt]] at hy
      generalize l[k] = y at *
      have HC := Lib.hid (fun W => rIn_any y (-1) (f.weeders - 1) W)
      rw [show inB y (-1) (f.weeders - 1) = true from by simp [inB]; omega] at HC
      have hltI : (k : Int) < l.length := by omega
      clear hB hBB
      go_upto_region 4 with (fail)
      refine wp_region_rg 9 [] none [(7, Spec.val (.bool true))] (by kernel_rfl) (by kernel_rfl) ?_
      simp only [List.take_succ_cons, List.take_zero, List.drop_succ_cons, List.drop_zero]
      repeat (first | (refine tree_det (by rfl) _ (by rfl) (fun W hW => by go_simp; (try simp (disch := omega) only [IntWalk.i64_in]); try rfl) ?_; simp only [Act.put, List.setIfInBounds_toArray, List.set_cons_succ, List.set_cons_zero]) | (refine tree_skip (by rfl) (by rfl) ?_; simp only [Act.put, List.setIfInBounds_toArray, List.set_cons_succ, List.set_cons_zero]))
      refine tree_val _ (by rfl) (by rfl) 35 _ (fun W hW => by go_simp; try rfl) (fun W hE hF => by exact HC.out W) ?_
      simp only [Act.put, List.setIfInBounds_toArray, List.set_cons_succ, List.set_cons_zero]
      repeat (first | (refine tree_det (by rfl) _ (by rfl) (fun W hW => by go_simp; (try simp (disch := omega) only [IntWalk.i64_in]); try rfl) ?_; simp only [Act.put, List.setIfInBounds_toArray, List.set_cons_succ, List.set_cons_zero]) | (refine tree_skip (by rfl) (by rfl) ?_; simp only [Act.put, List.setIfInBounds_toArray, List.set_cons_succ, List.set_cons_zero]))
      intro W hE hF
      obtain ⟨hc, hf⟩ := bcell hE.below
      have hzE := hE.size
      (try simp only [World.size_alloc] at hzE)
      have HE := Lib.hid hE
      clear hE hF
      go_wp2_with fail
      go_roundw
      case rel => exact ⟨k + 1, by omega, by go_num, bgo HB.out.1 HE.out.below⟩
      case measure => simp [intOf]; omega
    · have hnl : ¬ (k : Int) < l.length := by omega
      clear hB hBB
      go_upto_region 6 with (fail)
      refine wp_region_rg 18 [] none [(10, Spec.val (iv d)), (17, Spec.val (.bool q))] (by kernel_rfl) (by kernel_rfl) ?_
      simp only [List.take_succ_cons, List.take_zero, List.drop_succ_cons, List.drop_zero]
      repeat (first | (refine tree_det (by rfl) _ (by rfl) (fun W hW => by go_simp; (try simp (disch := omega) only [IntWalk.i64_in]); try rfl) ?_; simp only [Act.put, List.setIfInBounds_toArray, List.set_cons_succ, List.set_cons_zero]) | (refine tree_skip (by rfl) (by rfl) ?_; simp only [Act.put, List.setIfInBounds_toArray, List.set_cons_succ, List.set_cons_zero]))
      refine tree_val _ (by rfl) (by rfl) 104 _ (fun W hW => by go_simp; try rfl) (fun W hE hF => by exact HD.out W (bgo HB.out.2 (Ext.below hE))) ?_
      simp only [Act.put, List.setIfInBounds_toArray, List.set_cons_succ, List.set_cons_zero]
      repeat (first | (refine tree_det (by rfl) _ (by rfl) (fun W hW => by go_simp; (try simp (disch := omega) only [IntWalk.i64_in]); try rfl) ?_; simp only [Act.put, List.setIfInBounds_toArray, List.set_cons_succ, List.set_cons_zero]) | (refine tree_skip (by rfl) (by rfl) ?_; simp only [Act.put, List.setIfInBounds_toArray, List.set_cons_succ, List.set_cons_zero]))
      refine tree_val _ (by rfl) (by rfl) 35 _ (fun W hW => by go_simp; try rfl) (fun W hE hF => by exact (by have := rIn_any d f.left.1 f.left.2 W; rw [HQ.out] at this; exact this)) ?_
      simp only [Act.put, List.setIfInBounds_toArray, List.set_cons_succ, List.set_cons_zero]
      repeat (first | (refine tree_det (by rfl) _ (by rfl) (fun W hW => by go_simp; (try simp (disch := omega) only [IntWalk.i64_in]); try rfl) ?_; simp only [Act.put, List.setIfInBounds_toArray, List.set_cons_succ, List.set_cons_zero]) | (refine tree_skip (by rfl) (by rfl) ?_; simp only [Act.put, List.setIfInBounds_toArray, List.set_cons_succ, List.set_cons_zero]))
      intro W hE hF
      obtain ⟨hc, hf⟩ := bcell hE.below
      have hzE := hE.size
      (try simp only [World.size_alloc] at hzE)
      have HE := Lib.hid hE
      clear hE hF
      go_wp2_with fail
      go_returns
      exact ⟨by simp, bgo HB.out.2 HE.out.below⟩

/-- The tallies from one on. -/
def rokTo (f : FieldD) (l : List Int) (k : Nat) : Bool := (List.range k).all fun i => tallyR l (f.tallies.getD i (0, 0, 0, (0, 0)))
theorem rokTo_succ (f : FieldD) (l : List Int) (k : Nat) : rokTo f l (k + 1) = (rokTo f l k && tallyR l (f.tallies.getD k (0, 0, 0, (0, 0)))) := by
  unfold rokTo
  rw [List.range_succ, List.all_append]
  simp
theorem rightF_rok (f : FieldD) (l : List Int) : rightF f [] l = (rokTo f l f.tallies.length && inB (doneF f l (-1)) f.left.1 f.left.2) := by
  unfold rightF rokTo doneF
  simp
theorem rokTo_bad {f : FieldD} {l : List Int} {k : Nat} (hk : k < f.tallies.length) (h : tallyR l f.tallies[k] = false) : rightF f [] l = false := by
  rw [rightF_rok, Bool.and_eq_false_iff]
  left
  unfold rokTo
  rw [List.all_eq_false]
  exact ⟨k, by simpa using hk, by simp [List.getD, hk, h]⟩

theorem rIsTruth_any (f : FieldD) (hS : SoundF f) (tv lv : Value) (l : List Int) (hl : l ∈ allF f) (w : World) (ht : TalliesAt w tv f.tallies) (h : IntsAt w lv l) :
    Calls Try.prog 37 #[fv f tv, lv] w (PV (.bool (rightF f [] l)) w) := by
  obtain ⟨hlen, hin⟩ := mem_allF.1 hl
  have hr0 := hS.rows0
  have hr1 := hS.rows1
  have hlr : (l.length : Int) = f.rows := by omega
  obtain ⟨o, c, rfl⟩ := h.open
  obtain ⟨ot, ct, rfl⟩ := ht.open
  have HA := Lib.hid (rIsAllowed_any f hS (.slice ot f.tallies.length ct) (.slice o l.length c) l hl (w.alloc (.cells (rfcells f (.slice ot f.tallies.length ct)) 26)) (h.alloc _))
  have htl := hS.tals
  have HS := Lib.hid hS
  have HL := Lib.hid h
  have HT := Lib.hid ht
  have HLR := Lib.hid hlr
  have hl7 : l.length ≤ 7 := by omega
  obtain ⟨q, hq⟩ : ∃ q, inB (doneF f l (-1)) f.left.1 f.left.2 = q := ⟨_, rfl⟩
  obtain ⟨r, hr⟩ : ∃ r, rightF f [] l = r := ⟨_, rfl⟩
  have HR := Lib.hid (show r = (rokTo f l f.tallies.length && q) from by rw [← hr, ← hq, rightF_rok])
  have HRR := Lib.hid hr
  rw [hq] at HA
  rw [hr]
  clear h ht hlen hin hl hlr hq hS hr
  cases q
  · obtain rfl : r = false := by rw [HR.out]; simp
    go_enter Try.func37, Try.ntmps37
    go_wp2_with fail
    refine HA.out.mono ?_
    rintro e w1 ⟨rfl, hb⟩
    have HB := Lib.hid hb
    clear hb
    go_wp2_with fail
    go_returns
    exact ⟨by simp, bgo (bgoAlloc (Below.refl _ _) _) HB.out⟩
  · go_enter Try.func37, Try.ntmps37
    go_wp2_with fail
    refine HA.out.mono ?_
    rintro e w1 ⟨rfl, hb⟩
    have H0 := Lib.hid (And.intro (show Below w.heap.size w w1 from bgo (bgoAlloc (Below.refl _ _) _) hb) (show w1.heap[w.heap.size]? = some (.cells (rfcells f (.slice ot f.tallies.length ct)) 26 (0, 0)) from (hb.block _ (by simp)).trans (heap_new0 _ _)))
    obtain ⟨c0, f0, l0⟩ := cells_of_block H0.out.2
    clear hb
    go_wp2_with fail
    clear c0 f0 l0
    go_loopw [5] (fun u wr => ∃ k : Nat, k ≤ f.tallies.length ∧ u = .int .i64 k ∧ rokTo f l k = true ∧ Below w1.heap.size w1 wr) (fun u _ => f.tallies.length - (intOf u).toNat)
    case atStart => exact ⟨0, Nat.zero_le _, rfl, rfl, Below.refl _ _⟩
    case round =>
      obtain ⟨k, hk, rfl, hok, hB⟩ := hrel
      have hBB := bgo H0.out.1 hB
      obtain ⟨c1, f1, l1⟩ := cells_of_block ((hB.block _ (cells_of_block H0.out.2).2.2).trans H0.out.2)
      have HB := Lib.hid (And.intro hB hBB)
      have HOK := Lib.hid hok
      clear hok
      by_cases hlt : k < f.tallies.length
      · have htt := HT.out.below hBB (Nat.le_refl _)
        obtain ⟨g, off, rfl, hg, d0, d1, d2, d3, d4⟩ := TalliesAt.cell htt hlt
        have hsn := HS.out.tal _ (List.getElem_mem hlt)
        have hgd : f.tallies.getD k (0, 0, 0, (0, 0)) = f.tallies[k] := by simp [List.getD, hlt]
        obtain ⟨z, hz⟩ : ∃ z, tallyR l f.tallies[k] = z := ⟨_, rfl⟩
        have hLR := HLR.out
        have HC := Lib.hid (fun W hb => rRight_any l (.slice o l.length c) (by omega) f.tallies[k] hsn.2.1.1 hsn.2.1.2.1 (by omega) W (SlAt.below HL.out (bgo hBB hb) (Nat.le_refl w.heap.size)))
        rw [hz] at HC
        have HZ := Lib.hid (And.intro hgd hz)
        clear hz hgd hsn hLR
        have HTK : Hid (∃ hh : k < f.tallies.length, f.tallies[k] = f.tallies[k]) := Lib.hid ⟨hlt, rfl⟩
        have hltI : (k : Int) < f.tallies.length := by omega
        generalize hty : f.tallies[k] = y at *
        have HTY := Lib.hid hty
        clear hB hBB htt hty
        go_wp2_with fail
        refine (HC.out _ (by exact Below.refl _ _)).mono ?_
        rintro e w2 ⟨rfl, hb2⟩
        have HB2 := Lib.hid hb2
        clear hb2
        cases z
        · obtain rfl : r = false := by rw [← HRR.out]; exact rokTo_bad hlt (by rw [HTY.out]; exact HZ.out.2)
          go_wp2_with fail
          go_returns
          exact ⟨by simp, bgo HB.out.2 HB2.out⟩
        · go_wp2_with fail
          go_roundw
          case rel => exact ⟨k + 1, by omega, by go_num, by rw [rokTo_succ, HOK.out, HZ.out.1, HZ.out.2]; rfl, bgo HB.out.1 HB2.out⟩
          case measure => simp [intOf]; omega
      · have hkl : k = f.tallies.length := by omega
        obtain rfl : r = true := by rw [HR.out, ← hkl, HOK.out]; rfl
        have hnl : ¬ (k : Int) < f.tallies.length := by omega
        clear hB hBB
        go_wp2_with fail
        go_returns
        exact ⟨by simp, HB.out.2⟩

end Go.Proofs.Ytdjgikcnmokjkaa
