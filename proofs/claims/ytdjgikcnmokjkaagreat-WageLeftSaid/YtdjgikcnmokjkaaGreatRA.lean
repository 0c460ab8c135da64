/-
  Contracts of the reference of package weed, first part: In, Within, Did, Right, IsAllowed, IsTruth.
  Contracts of the reference of package weed, second part: IsAllowed, IsTruth, Many, Fault.
  Contracts of the reference of package weed, third part: Many, Fault; of the law: Thin.
  Contracts of the reference of package weed, fourth part: Bits, Nth, Truths.
-/
import Derived.WalkKit
import Derived.WalkLawsBesides
import Derived.WalkSpells
import Derived.Outline
import Derived.Handy
import Derived.KernelRfl
import Derived.Lib.Hide
import Derived.Deep.Cut
import Derived.Test.YtdjgikcnmokjkaaGreatQF
import Derived.Laws.BitsLemmas
namespace Go.Proofs.YtdjgikcnmokjkaaGreat
open Go.RowKit Go.RG Go.SL Go.Shelf Cou Go.TB
set_option maxHeartbeats 400000
set_option maxRecDepth 10000

theorem rIn_any (n l h : Int) (w : World) : Calls Tryz.prog 25 #[iv n, iv l, iv h] w (PV (.bool (inB n l h)) w) := by
  by_cases h1 : l ≤ n
  all_goals
    go_enter Tryz.func25, Tryz.ntmps25
    go_wp2
    go_returns
    exact ⟨by simp [inB]; omega, Below.refl _ _⟩

theorem rWithin_any (r : Rng) (hi : Int) (w : World) : Calls Tryz.prog 121 #[rv r, iv 0, iv hi] w (PV (.bool (okR r hi)) w) := by
  go_enter Tryz.func121, Tryz.ntmps121
  go_wp2
  all_goals
    go_returns
    exact ⟨by simp [okR]; omega, by go_grown⟩

theorem rDid_at (l : List Int) (lv : Value) (hl : l.length ≤ 1000) (who : Int) (a n : Nat) (b : Int) (hb : b + 1 = (a : Int) + n) (hn : a + n ≤ l.length) (w : World) (h : IntsAt w lv l) :
    Calls Tryz.prog 73 #[lv, iv who, iv a, iv b] w (PV (iv (didL l who a n)) w) := by
  obtain ⟨o, c, rfl⟩ := h.open
  have HL := Lib.hid h
  clear h
  obtain ⟨r, hr⟩ : ∃ r, didL l who a n = r := ⟨_, rfl⟩
  rw [hr]
  have HR := Lib.hid hr
  clear hr
  go_enter Tryz.func73, Tryz.ntmps73
  go_wp2_with fail
  go_loop [9, 10] (fun m i => ∃ k : Nat, k ≤ n ∧ i = .int .i64 ((a : Int) + k) ∧ m = .int .i64 (didL l who a k)) (fun _ i => a + n - (intOf i).toNat)
  case atStart => exact ⟨0, Nat.zero_le _, by simp, by simp [didL]⟩
  case round =>
    obtain ⟨k, hk, rfl, rfl⟩ := hrel
    have hbd := didL_bd l who a k
    have hsu := didL_succ l who a k
    by_cases hlt : k < n
    · obtain ⟨g, off, rfl, hg, d1⟩ := IntsAt.cell HL.out (show a + k < l.length by omega)
      have hgd : l.getD (a + k) 0 = l[a + k]'(by omega) := by simp [List.getD, show a + k < l.length by omega]
      rw [hgd] at hsu
      have HSU := Lib.hid hsu
      clear hgd hsu
      generalize l[a + k]'(by omega) = y at *
      generalize didL l who a k = d at *
      have hltI : (a : Int) + k < l.length := by omega
      have hleb : (a : Int) + k ≤ b := by omega
      have hgb : d1 = d1 := rfl
      by_cases hy : y = who
      · subst hy
        go_wp2_with fail
        go_round
        case rel => exact ⟨k + 1, by omega, by go_num, by rw [HSU.out, if_pos rfl]⟩
        case measure => simp [intOf]; omega
      · have hyb : (y == who) = false := by simpa using hy
        have HY := Lib.hid hy
        clear hy
        go_wp2_with fail
        go_round
        case rel => exact ⟨k + 1, by omega, by go_num, by rw [HSU.out, if_neg HY.out]; simp⟩
        case measure => simp [intOf]; omega
    · have hkn : k = n := by omega
      subst hkn
      obtain rfl : r = didL l who a k := HR.out.symm
      clear hsu
      generalize didL l who a k = d at *
      have hleb : ¬ (a : Int) + k ≤ b := by omega
      go_wp2_with fail
      go_returns
      exact ⟨by simp, (by repeat (first | exact Below.refl _ _ | assumption | refine bgo ?_ (by assumption) | refine bgoAlloc ?_ _ | refine bgoDrew ?_ | refine bgoSet ?_ (by simp; omega) _))⟩

theorem rDid_any (l : List Int) (lv : Value) (hl : l.length ≤ 1000) (who a b : Int) (h0 : 0 ≤ a) (h1 : a ≤ b + 1) (h2 : b < l.length) (w : World) (h : IntsAt w lv l) :
    Calls Tryz.prog 73 #[lv, iv who, iv a, iv b] w (PV (iv (didT l who a b)) w) := by
  have := rDid_at l lv hl who a.toNat (b + 1 - a).toNat b (by omega) (by omega) w h
  rw [show ((a.toNat : Nat) : Int) = a from by omega] at this
  exact this

/-- Whether a tally is right. -/
theorem rRight_any (l : List Int) (lv : Value) (hl : l.length ≤ 1000) (t : Tly) (h0 : 0 ≤ t.2.1) (h1 : t.2.1 ≤ t.2.2.1) (h2 : t.2.2.1 < l.length) (w : World) (h : IntsAt w lv l) :
    Calls Tryz.prog 120 #[lv, tlyv t] w (PV (.bool (tallyR l t)) w) := by
  have HD := Lib.hid (fun W (hb : Below w.heap.size w W) => rDid_any l lv hl t.1 t.2.1 t.2.2.1 h0 (by omega) h2 W (SlAt.below h hb (Nat.le_refl _)))
  obtain ⟨d, hd⟩ : ∃ d, didT l t.1 t.2.1 t.2.2.1 = d := ⟨_, rfl⟩
  obtain ⟨q, hq⟩ : ∃ q, tallyR l t = q := ⟨_, rfl⟩
  have hQ : inB d t.2.2.2.1 t.2.2.2.2 = q := by rw [← hq, ← hd]; rfl
  rw [hd] at HD
  rw [hq]
  have HQ := Lib.hid hQ
  obtain ⟨o, c, rfl⟩ := h.open
  clear hd hq hQ h
  go_enter Tryz.func120, Tryz.ntmps120
  go_upto_region 1 with (fail)
  refine wp_region_rg 15 [] none [(7, Spec.val (iv d)), (14, Spec.val (.bool q))] (by as_aux_lemma => kernel_rfl) (by as_aux_lemma => kernel_rfl) ?_
  simp only [List.take_succ_cons, List.take_zero, List.drop_succ_cons, List.drop_zero]
  repeat (first | (refine tree_det (by rfl) _ (by rfl) (fun W hW => by go_simp; (try simp (disch := omega) only [IntWalk.i64_in]); try rfl) ?_; simp only [Act.put, List.setIfInBounds_toArray, List.set_cons_succ, List.set_cons_zero]) | (refine tree_skip (by rfl) (by rfl) ?_; simp only [Act.put, List.setIfInBounds_toArray, List.set_cons_succ, List.set_cons_zero]))
  refine tree_val _ (by rfl) (by rfl) 73 _ (fun W hW => by go_simp; try rfl) (fun W hE hF => by exact HD.out W (bgo (bgoAlloc (Below.refl _ _) _) (Ext.below hE))) ?_
  simp only [Act.put, List.setIfInBounds_toArray, List.set_cons_succ, List.set_cons_zero]
  repeat (first | (refine tree_det (by rfl) _ (by rfl) (fun W hW => by go_simp; (try simp (disch := omega) only [IntWalk.i64_in]); try rfl) ?_; simp only [Act.put, List.setIfInBounds_toArray, List.set_cons_succ, List.set_cons_zero]) | (refine tree_skip (by rfl) (by rfl) ?_; simp only [Act.put, List.setIfInBounds_toArray, List.set_cons_succ, List.set_cons_zero]))
  refine tree_val _ (by rfl) (by rfl) 25 _ (fun W hW => by go_simp; try rfl) (fun W hE hF => by exact (by have := rIn_any d t.2.2.2.1 t.2.2.2.2 W; rw [HQ.out] at this; exact this)) ?_
  simp only [Act.put, List.setIfInBounds_toArray, List.set_cons_succ, List.set_cons_zero]
  repeat (first | (refine tree_det (by rfl) _ (by rfl) (fun W hW => by go_simp; (try simp (disch := omega) only [IntWalk.i64_in]); try rfl) ?_; simp only [Act.put, List.setIfInBounds_toArray, List.set_cons_succ, List.set_cons_zero]) | (refine tree_skip (by rfl) (by rfl) ?_; simp only [Act.put, List.setIfInBounds_toArray, List.set_cons_succ, List.set_cons_zero]))
  intro W hE hF
  obtain ⟨hc, hf⟩ := bcell hE.below
  have hzE := hE.size
  (try simp only [World.size_alloc] at hzE)
  go_wp2_with fail
  go_returns
  exact ⟨by simp, (by repeat (first | exact Below.refl _ _ | assumption | refine bgo ?_ hE.below | refine bgo ?_ (by assumption) | refine bgoAlloc ?_ _ | refine bgoDrew ?_ | refine bgoSet ?_ (by simp; try omega) _))⟩

end Go.Proofs.YtdjgikcnmokjkaaGreat

namespace Go.Proofs.YtdjgikcnmokjkaaGreat
open Go.RowKit Go.RG Go.SL Go.Shelf Cou Go.TB
set_option maxHeartbeats 400000
set_option maxRecDepth 10000

abbrev rfcells (f : FieldD) (tv : Value) : Array Value := #[iv f.rows, iv f.weeders, iv f.left.1, iv f.left.2, tv]

theorem rIsAllowed_any (f : FieldD) (hS : SoundF f) (tv lv : Value) (l : List Int) (hl : l ∈ allF f) (w : World) (h : IntsAt w lv l) :
    Calls Tryz.prog 119 #[fv f tv, lv] w (PV (.bool (inB (doneF f l (-1)) f.left.1 f.left.2)) w) := by
  obtain ⟨hlen, hin⟩ := mem_allF.1 hl
  have hr0 := hS.rows0
  have hr1 := hS.rows1
  have hw0 := hS.weed0
  have hw1 := hS.weed1
  obtain ⟨o, c, rfl⟩ := h.open
  have hlr : (l.length : Int) = f.rows := by omega
  have HD := Lib.hid (fun W hb => rDid_any l (.slice o l.length c) (by omega) (-1) 0 (f.rows - 1) (by omega) (by omega) (by omega) W (SlAt.below h hb (Nat.le_refl w.heap.size)))
  have hd : didT l (-1) 0 (f.rows - 1) = doneF f l (-1) := rfl
  rw [hd] at HD
  generalize doneF f l (-1) = d at *
  have HL := Lib.hid h
  have HI := Lib.hid (fun i (hi : i < l.length) => hin i (by omega))
  have hleq : ((l.length : Int) == f.rows) = true := by simpa using hlr
  have hlb : l.length ≤ 7 := by omega
  have HLR := Lib.hid hlr
  obtain ⟨q, hq⟩ : ∃ q, inB d f.left.1 f.left.2 = q := ⟨_, rfl⟩
  have HQ := Lib.hid hq
  rw [hq]
  clear h hin hlen hlr hd hq hl
  go_enter Tryz.func119, Tryz.ntmps119
  go_wp2_with fail
  refine gworld fun W0 hW0 => ?_
  have hB0 : Below w.heap.size w W0 := by rw [hW0]; exact (by repeat (first | exact Below.refl _ _ | assumption | refine bgo ?_ (by assumption) | refine bgoAlloc ?_ _ | refine bgoDrew ?_ | refine bgoSet ?_ (by simp; omega) _))
  have hK0 : W0.heap[w.heap.size]? = some (.cells (rfcells f tv) 26 (0, 0)) := by rw [hW0]; exact heap_new0 _ _
  have H0 := Lib.hid (And.intro hB0 hK0)
  clear hW0 hB0 hK0
  go_loopw [5] (fun u wr => ∃ k : Nat, k ≤ l.length ∧ u = .int .i64 k ∧ Below W0.heap.size W0 wr) (fun u _ => l.length - (intOf u).toNat)
  case atStart => exact ⟨0, Nat.zero_le _, rfl, Below.refl _ _⟩
  case round =>
    obtain ⟨k, hk, rfl, hB⟩ := hrel
    have hBB := bgo H0.out.1 hB
    obtain ⟨c1, f1, l1⟩ := cells_of_block ((hB.block _ (cells_of_block H0.out.2).2.2).trans H0.out.2)
    have HB := Lib.hid (And.intro hB hBB)
    by_cases hlt : k < l.length
    · obtain ⟨g, off, rfl, hg, d1⟩ := IntsAt.cell (HL.out.below hBB (Nat.le_refl _)) hlt
      have hy := HI.out k hlt
      rw [show l.getD k 0 = l[k] from by simp [List.getD, hlt]] at hy
      generalize l[k] = y at *
      have HC := Lib.hid (fun W => rIn_any y (-1) (f.weeders - 1) W)
      rw [show inB y (-1) (f.weeders - 1) = true from by simp [inB]; omega] at HC
      have hltI : (k : Int) < l.length := by omega
      clear hB hBB
      go_upto_region 4 with (fail)
      refine wp_region_rg 9 [] none [(7, Spec.val (.bool true))] (by as_aux_lemma => kernel_rfl) (by as_aux_lemma => kernel_rfl) ?_
      simp only [List.take_succ_cons, List.take_zero, List.drop_succ_cons, List.drop_zero]
      repeat (first | (refine tree_det (by rfl) _ (by rfl) (fun W hW => by go_simp; (try simp (disch := omega) only [IntWalk.i64_in]); try rfl) ?_; simp only [Act.put, List.setIfInBounds_toArray, List.set_cons_succ, List.set_cons_zero]) | (refine tree_skip (by rfl) (by rfl) ?_; simp only [Act.put, List.setIfInBounds_toArray, List.set_cons_succ, List.set_cons_zero]))
      refine tree_val _ (by rfl) (by rfl) 25 _ (fun W hW => by go_simp; try rfl) (fun W hE hF => by exact HC.out W) ?_
      simp only [Act.put, List.setIfInBounds_toArray, List.set_cons_succ, List.set_cons_zero]
      repeat (first | (refine tree_det (by rfl) _ (by rfl) (fun W hW => by go_simp; (try simp (disch := omega) only [IntWalk.i64_in]); try rfl) ?_; simp only [Act.put, List.setIfInBounds_toArray, List.set_cons_succ, List.set_cons_zero]) | (refine tree_skip (by rfl) (by rfl) ?_; simp only [Act.put, List.setIfInBounds_toArray, List.set_cons_succ, List.set_cons_zero]))
      intro W hE hF
      obtain ⟨hc, hf⟩ := bcell hE.below
      have hzE := hE.size
      (try simp only [World.size_alloc] at hzE)
      have HE := Lib.hid hE
      clear hE hF
      go_wp2_with fail
      go_roundw
      case rel => exact ⟨k + 1, by omega, by go_num, bgo HB.out.1 HE.out.below⟩
      case measure => simp [intOf]; omega
    · have hnl : ¬ (k : Int) < l.length := by omega
      clear hB hBB
      go_upto_region 6 with (fail)
      refine wp_region_rg 18 [] none [(10, Spec.val (iv d)), (17, Spec.val (.bool q))] (by as_aux_lemma => kernel_rfl) (by as_aux_lemma => kernel_rfl) ?_
      simp only [List.take_succ_cons, List.take_zero, List.drop_succ_cons, List.drop_zero]
      repeat (first | (refine tree_det (by rfl) _ (by rfl) (fun W hW => by go_simp; (try simp (disch := omega) only [IntWalk.i64_in]); try rfl) ?_; simp only [Act.put, List.setIfInBounds_toArray, List.set_cons_succ, List.set_cons_zero]) | (refine tree_skip (by rfl) (by rfl) ?_; simp only [Act.put, List.setIfInBounds_toArray, List.set_cons_succ, List.set_cons_zero]))
      refine tree_val _ (by rfl) (by rfl) 73 _ (fun W hW => by go_simp; try rfl) (fun W hE hF => by exact HD.out W (bgo HB.out.2 (Ext.below hE))) ?_
      simp only [Act.put, List.setIfInBounds_toArray, List.set_cons_succ, List.set_cons_zero]
      repeat (first | (refine tree_det (by rfl) _ (by rfl) (fun W hW => by go_simp; (try simp (disch := omega) only [IntWalk.i64_in]); try rfl) ?_; simp only [Act.put, List.setIfInBounds_toArray, List.set_cons_succ, List.set_cons_zero]) | (refine tree_skip (by rfl) (by rfl) ?_; simp only [Act.put, List.setIfInBounds_toArray, List.set_cons_succ, List.set_cons_zero]))
      refine tree_val _ (by rfl) (by rfl) 25 _ (fun W hW => by go_simp; try rfl) (fun W hE hF => by exact (by have := rIn_any d f.left.1 f.left.2 W; rw [HQ.out] at this; exact this)) ?_
      simp only [Act.put, List.setIfInBounds_toArray, List.set_cons_succ, List.set_cons_zero]
      repeat (first | (refine tree_det (by rfl) _ (by rfl) (fun W hW => by go_simp; (try simp (disch := omega) only [IntWalk.i64_in]); try rfl) ?_; simp only [Act.put, List.setIfInBounds_toArray, List.set_cons_succ, List.set_cons_zero]) | (refine tree_skip (by rfl) (by rfl) ?_; simp only [Act.put, List.setIfInBounds_toArray, List.set_cons_succ, List.set_cons_zero]))
      intro W hE hF
      obtain ⟨hc, hf⟩ := bcell hE.below
      have hzE := hE.size
      (try simp only [World.size_alloc] at hzE)
      have HE := Lib.hid hE
      clear hE hF
      go_wp2_with fail
      go_returns
      exact ⟨by simp, bgo HB.out.2 HE.out.below⟩

/-- The tallies from one on. -/
def rokTo (f : FieldD) (l : List Int) (k : Nat) : Bool := (List.range k).all fun i => tallyR l (f.tallies.getD i (0, 0, 0, (0, 0)))
theorem rokTo_succ (f : FieldD) (l : List Int) (k : Nat) : rokTo f l (k + 1) = (rokTo f l k && tallyR l (f.tallies.getD k (0, 0, 0, (0, 0)))) := by
  unfold rokTo
  rw [List.range_succ, List.all_append]
  simp
theorem rightF_rok (f : FieldD) (l : List Int) : rightF f [] l = (rokTo f l f.tallies.length && inB (doneF f l (-1)) f.left.1 f.left.2) := by
  unfold rightF rokTo doneF
  simp
theorem rokTo_bad {f : FieldD} {l : List Int} {k : Nat} (hk : k < f.tallies.length) (h : tallyR l f.tallies[k] = false) : rightF f [] l = false := by
  rw [rightF_rok, Bool.and_eq_false_iff]
  left
  unfold rokTo
  rw [List.all_eq_false]
  exact ⟨k, by simpa using hk, by simp [List.getD, hk, h]⟩

theorem rIsTruth_any (f : FieldD) (hS : SoundF f) (tv lv : Value) (l : List Int) (hl : l ∈ allF f) (w : World) (ht : TalliesAt w tv f.tallies) (h : IntsAt w lv l) :
    Calls Tryz.prog 72 #[fv f tv, lv] w (PV (.bool (rightF f [] l)) w) := by
  obtain ⟨hlen, hin⟩ := mem_allF.1 hl
  have hr0 := hS.rows0
  have hr1 := hS.rows1
  have hlr : (l.length : Int) = f.rows := by omega
  obtain ⟨o, c, rfl⟩ := h.open
  obtain ⟨ot, ct, rfl⟩ := ht.open
  have HA := Lib.hid (rIsAllowed_any f hS (.slice ot f.tallies.length ct) (.slice o l.length c) l hl (w.alloc (.cells (rfcells f (.slice ot f.tallies.length ct)) 26)) (h.alloc _))
  have htl := hS.tals
  have HS := Lib.hid hS
  have HL := Lib.hid h
  have HT := Lib.hid ht
  have HLR := Lib.hid hlr
  have hl7 : l.length ≤ 7 := by omega
  obtain ⟨q, hq⟩ : ∃ q, inB (doneF f l (-1)) f.left.1 f.left.2 = q := ⟨_, rfl⟩
  obtain ⟨r, hr⟩ : ∃ r, rightF f [] l = r := ⟨_, rfl⟩
  have HR := Lib.hid (show r = (rokTo f l f.tallies.length && q) from by rw [← hr, ← hq, rightF_rok])
  have HRR := Lib.hid hr
  rw [hq] at HA
  rw [hr]
  clear h ht hlen hin hl hlr hq hS hr
  cases q
  · obtain rfl : r = false := by rw [HR.out]; simp
    go_enter Tryz.func72, Tryz.ntmps72
    go_wp2_with fail
    refine HA.out.mono ?_
    rintro e w1 ⟨rfl, hb⟩
    have HB := Lib.hid hb
    clear hb
    go_wp2_with fail
    go_returns
    exact ⟨by simp, bgo (bgoAlloc (Below.refl _ _) _) HB.out⟩
  · go_enter Tryz.func72, Tryz.ntmps72
    go_wp2_with fail
    refine HA.out.mono ?_
    rintro e w1 ⟨rfl, hb⟩
    have H0 := Lib.hid (And.intro (show Below w.heap.size w w1 from bgo (bgoAlloc (Below.refl _ _) _) hb) (show w1.heap[w.heap.size]? = some (.cells (rfcells f (.slice ot f.tallies.length ct)) 26 (0, 0)) from (hb.block _ (by simp)).trans (heap_new0 _ _)))
    obtain ⟨c0, f0, l0⟩ := cells_of_block H0.out.2
    clear hb
    go_wp2_with fail
    clear c0 f0 l0
    go_loopw [5] (fun u wr => ∃ k : Nat, k ≤ f.tallies.length ∧ u = .int .i64 k ∧ rokTo f l k = true ∧ Below w1.heap.size w1 wr) (fun u _ => f.tallies.length - (intOf u).toNat)
    case atStart => exact ⟨0, Nat.zero_le _, rfl, rfl, Below.refl _ _⟩
    case round =>
      obtain ⟨k, hk, rfl, hok, hB⟩ := hrel
      have hBB := bgo H0.out.1 hB
      obtain ⟨c1, f1, l1⟩ := cells_of_block ((hB.block _ (cells_of_block H0.out.2).2.2).trans H0.out.2)
      have HB := Lib.hid (And.intro hB hBB)
      have HOK := Lib.hid hok
      clear hok
      by_cases hlt : k < f.tallies.length
      · have htt := HT.out.below hBB (Nat.le_refl _)
        obtain ⟨g, off, rfl, hg, d0, d1, d2, d3, d4⟩ := TalliesAt.cell htt hlt
        have hsn := HS.out.tal _ (List.getElem_mem hlt)
        have hgd : f.tallies.getD k (0, 0, 0, (0, 0)) = f.tallies[k] := by simp [List.getD, hlt]
        obtain ⟨z, hz⟩ : ∃ z, tallyR l f.tallies[k] = z := ⟨_, rfl⟩
        have hLR := HLR.out
        have HC := Lib.hid (fun W hb => rRight_any l (.slice o l.length c) (by omega) f.tallies[k] hsn.2.1.1 hsn.2.1.2.1 (by omega) W (SlAt.below HL.out (bgo hBB hb) (Nat.le_refl w.heap.size)))
        rw [hz] at HC
        have HZ := Lib.hid (And.intro hgd hz)
        clear hz hgd hsn hLR
        have HTK : Hid (∃ hh : k < f.tallies.length, f.tallies[k] = f.tallies[k]) := Lib.hid ⟨hlt, rfl⟩
        have hltI : (k : Int) < f.tallies.length := by omega
        generalize hty : f.tallies[k] = y at *
        have HTY := Lib.hid hty
        clear hB hBB htt hty
        go_wp2_with fail
        refine (HC.out _ (by exact Below.refl _ _)).mono ?_
        rintro e w2 ⟨rfl, hb2⟩
        have HB2 := Lib.hid hb2
        clear hb2
        cases z
        · obtain rfl : r = false := by rw [← HRR.out]; exact rokTo_bad hlt (by rw [HTY.out]; exact HZ.out.2)
          go_wp2_with fail
          go_returns
          exact ⟨by simp, bgo HB.out.2 HB2.out⟩
        · go_wp2_with fail
          go_roundw
          case rel => exact ⟨k + 1, by omega, by go_num, by rw [rokTo_succ, HOK.out, HZ.out.1, HZ.out.2]; rfl, bgo HB.out.1 HB2.out⟩
          case measure => simp [intOf]; omega
      · have hkl : k = f.tallies.length := by omega
        obtain rfl : r = true := by rw [HR.out, ← hkl, HOK.out]; rfl
        have hnl : ¬ (k : Int) < f.tallies.length := by omega
        clear hB hBB
        go_wp2_with fail
        go_returns
        exact ⟨by simp, HB.out.2⟩

end Go.Proofs.YtdjgikcnmokjkaaGreat

namespace Go.Proofs.YtdjgikcnmokjkaaGreat
open Go.RowKit Go.RG Go.SL Go.Shelf Cou Go.TB
set_option maxHeartbeats 400000
set_option maxRecDepth 10000

theorem rMany_any (f : FieldD) (tv : Value) (w : World) (h0 : 1 ≤ f.rows) (h1 : f.rows ≤ 7) (h2 : 1 ≤ f.weeders) (h3 : f.weeders ≤ 3) :
    Calls Tryz.prog 76 #[fv f tv] w (PV (iv ((f.weeders + 1) ^ f.rows.toNat)) w) := by
  have HP := Lib.hid (fun (k : Nat) (hk : k ≤ 7) => powF_bd' (b := f.weeders + 1) (by omega) (by omega) k hk)
  obtain ⟨n, hn⟩ : ∃ n : Nat, f.rows = n := ⟨f.rows.toNat, by omega⟩
  have hn7 : n ≤ 7 := by omega
  have HN := Lib.hid hn
  rw [hn, Int.toNat_natCast]
  obtain ⟨r, hr⟩ : ∃ r, (f.weeders + 1) ^ n = r := ⟨_, rfl⟩
  rw [hr]
  have HR := Lib.hid hr
  clear hn hr
  go_enter Tryz.func76, Tryz.ntmps76
  go_wp2_with fail
  go_loop [3, 4] (fun m i => ∃ k : Nat, k ≤ n ∧ i = .int .i64 k ∧ m = .int .i64 ((f.weeders + 1) ^ k)) (fun _ i => n - (intOf i).toNat)
  case atStart => exact ⟨0, Nat.zero_le _, rfl, by simp⟩
  case round =>
    obtain ⟨k, hk, rfl, rfl⟩ := hrel
    obtain ⟨p1, p2⟩ := HP.out k (by omega)
    by_cases hlt : k < n
    · have hkI : (k : Int) < f.rows := by have := HN.out; omega
      obtain ⟨q1, q2⟩ := HP.out (k + 1) (by omega)
      have HE := Lib.hid (Int.pow_succ (f.weeders + 1) k)
      rw [Int.pow_succ] at q1 q2
      generalize (f.weeders + 1) ^ k = m at p1 p2 q1 q2 HE ⊢
      go_wp2
      go_round
      case rel => exact ⟨k + 1, by omega, by go_num, by rw [HE.out]⟩
      case measure => simp [intOf]; omega
    · have hkn : k = n := by omega
      subst hkn
      have hkI : ¬ (k : Int) < f.rows := by have := HN.out; omega
      rw [HR.out] at p1 p2 ⊢
      go_wp2
      go_returns
      exact ⟨by simp, (by repeat (first | exact Below.refl _ _ | assumption | refine bgo ?_ (by assumption) | refine bgoAlloc ?_ _ | refine bgoDrew ?_ | refine bgoSet ?_ (by simp; omega) _))⟩

theorem rFault_lim1 (f : FieldD) (o : Option Addr) (n c : Nat) (w : World) (a1 : 7 < f.rows) : Calls Tryz.prog 75 #[fv f (.slice o n c)] w (PV (iv 3) w) := by
  go_enter Tryz.func75, Tryz.ntmps75
  go_wp2
  go_returns
  exact ⟨by simp, (by repeat (first | exact Below.refl _ _ | assumption | refine bgo ?_ (by assumption) | refine bgoAlloc ?_ _ | refine bgoDrew ?_ | refine bgoSet ?_ (by simp; omega) _))⟩
theorem rFault_lim2 (f : FieldD) (o : Option Addr) (n c : Nat) (w : World) (a1 : ¬ 7 < f.rows) (a2 : 3 < f.weeders) : Calls Tryz.prog 75 #[fv f (.slice o n c)] w (PV (iv 3) w) := by
  go_enter Tryz.func75, Tryz.ntmps75
  go_wp2
  go_returns
  exact ⟨by simp, (by repeat (first | exact Below.refl _ _ | assumption | refine bgo ?_ (by assumption) | refine bgoAlloc ?_ _ | refine bgoDrew ?_ | refine bgoSet ?_ (by simp; omega) _))⟩
theorem rFault_lim3 (f : FieldD) (o : Option Addr) (n c : Nat) (w : World) (a1 : ¬ 7 < f.rows) (a2 : ¬ 3 < f.weeders) (a3 : (5 : Int) < n) : Calls Tryz.prog 75 #[fv f (.slice o n c)] w (PV (iv 3) w) := by
  go_enter Tryz.func75, Tryz.ntmps75
  go_wp2
  go_returns
  exact ⟨by simp, (by repeat (first | exact Below.refl _ _ | assumption | refine bgo ?_ (by assumption) | refine bgoAlloc ?_ _ | refine bgoDrew ?_ | refine bgoSet ?_ (by simp; omega) _))⟩
theorem rFault_arg1 (f : FieldD) (o : Option Addr) (n c : Nat) (w : World) (a1 : ¬ 7 < f.rows) (a2 : ¬ 3 < f.weeders) (a3 : ¬ (5 : Int) < n) (b1 : f.rows < 1) : Calls Tryz.prog 75 #[fv f (.slice o n c)] w (PV (iv 1) w) := by
  go_enter Tryz.func75, Tryz.ntmps75
  go_wp2
  go_returns
  exact ⟨by simp, (by repeat (first | exact Below.refl _ _ | assumption | refine bgo ?_ (by assumption) | refine bgoAlloc ?_ _ | refine bgoDrew ?_ | refine bgoSet ?_ (by simp; omega) _))⟩
theorem rFault_arg2 (f : FieldD) (o : Option Addr) (n c : Nat) (w : World) (a1 : ¬ 7 < f.rows) (a2 : ¬ 3 < f.weeders) (a3 : ¬ (5 : Int) < n) (b1 : ¬ f.rows < 1) (b2 : f.weeders < 1) : Calls Tryz.prog 75 #[fv f (.slice o n c)] w (PV (iv 1) w) := by
  go_enter Tryz.func75, Tryz.ntmps75
  go_wp2
  go_returns
  exact ⟨by simp, (by repeat (first | exact Below.refl _ _ | assumption | refine bgo ?_ (by assumption) | refine bgoAlloc ?_ _ | refine bgoDrew ?_ | refine bgoSet ?_ (by simp; omega) _))⟩
theorem rFault_arg3 (f : FieldD) (o : Option Addr) (n c : Nat) (w : World) (a1 : ¬ 7 < f.rows) (a2 : ¬ 3 < f.weeders) (a3 : ¬ (5 : Int) < n) (b1 : ¬ f.rows < 1) (b2 : ¬ f.weeders < 1) (b3 : okR f.left f.rows = false) :
    Calls Tryz.prog 75 #[fv f (.slice o n c)] w (PV (iv 1) w) := by
  go_enter Tryz.func75, Tryz.ntmps75
  go_wp2_with fail
  refine (rWithin_any f.left f.rows _).mono ?_
  rintro e w' ⟨rfl, hb⟩
  obtain ⟨hc, hf⟩ := bcell hb
  have hz0 : w.heap.size < w'.heap.size := (by have := hb.size; (try simp only [World.size_alloc] at this); omega)
  rw [b3]
  go_wp2_with fail
  go_returns
  exact ⟨by simp, (by repeat (first | exact Below.refl _ _ | assumption | refine bgo ?_ (by assumption) | refine bgoAlloc ?_ _ | refine bgoDrew ?_ | refine bgoSet ?_ (by simp; omega) _))⟩

theorem okTally_parts {f : FieldD} {t : Tly} : okTally f t = (inB t.1 0 (f.weeders - 1) && (inB t.2.1 0 (f.rows - 1) && (inB t.2.2.1 t.2.1 (f.rows - 1) && okR t.2.2.2 f.rows))) := by
  rw [Bool.eq_iff_iff]
  simp only [okTally, inB, Bool.and_eq_true, decide_eq_true_eq]
  constructor
  · rintro ⟨⟨⟨⟨a, b⟩, c⟩, d⟩, e⟩
    exact ⟨a, b, by omega, e⟩
  · rintro ⟨a, b, c, e⟩
    exact ⟨⟨⟨⟨a, b⟩, by omega⟩, by omega⟩, e⟩

/-- The tallies up to one stand. -/
def talTo (f : FieldD) (k : Nat) : Bool := (f.tallies.take k).all (okTally f)
theorem talTo_succ {f : FieldD} {k : Nat} (hk : k < f.tallies.length) : talTo f (k + 1) = (talTo f k && okTally f f.tallies[k]) := by
  unfold talTo
  rw [List.take_succ_eq_append_getElem hk, List.all_append]
  simp
theorem talTo_bad {f : FieldD} {k : Nat} (hk : k < f.tallies.length) (h : okTally f f.tallies[k] = false) : f.tallies.all (okTally f) = false := by
  rw [List.all_eq_false]
  exact ⟨_, List.getElem_mem hk, by simp [h]⟩

set_option maxHeartbeats 2000000 in
theorem rFault_body (f : FieldD) (o : Option Addr) (c : Nat) (w : World) (hx : TalliesAt w (.slice o f.tallies.length c) f.tallies) (a1 : ¬ 7 < f.rows) (a2 : ¬ 3 < f.weeders) (a3 : ¬ (5 : Int) < f.tallies.length) (b1 : ¬ f.rows < 1) (b2 : ¬ f.weeders < 1) (b3 : okR f.left f.rows = true) :
    Calls Tryz.prog 75 #[fv f (.slice o f.tallies.length c)] w (PV (iv (if f.tallies.all (okTally f) = false then 1 else if 2500 < (f.weeders + 1) ^ f.rows.toNat then 3 else 0)) w) := by
  have HT := Lib.hid hx
  obtain ⟨q, hq⟩ : ∃ q, (if f.tallies.all (okTally f) = false then 1 else if 2500 < (f.weeders + 1) ^ f.rows.toNat then 3 else 0 : Int) = q := ⟨_, rfl⟩
  rw [hq]
  have HQ := Lib.hid hq
  clear hx hq
  have hl5 : f.tallies.length ≤ 5 := by omega
  go_enter Tryz.func75, Tryz.ntmps75
  go_wp2_with fail
  refine (rWithin_any f.left f.rows _).mono ?_
  rintro e w1 ⟨rfl, hb⟩
  have H0 := Lib.hid (And.intro (show Below w.heap.size w w1 from bgo (bgoAlloc (Below.refl _ _) _) hb) (show w1.heap[w.heap.size]? = some (.cells (rfcells f (.slice o f.tallies.length c)) 26 (0, 0)) from (hb.block _ (by simp)).trans (heap_new0 _ _)))
  obtain ⟨c0, f0, l0⟩ := cells_of_block H0.out.2
  clear hb
  rw [b3]
  go_wp2_with fail
  clear c0 f0 l0
  go_loopw [3] (fun u wr => ∃ k : Nat, k ≤ f.tallies.length ∧ u = .int .i64 k ∧ talTo f k = true ∧ Below w1.heap.size w1 wr) (fun u _ => f.tallies.length - (intOf u).toNat)
  case atStart => exact ⟨0, Nat.zero_le _, rfl, rfl, Below.refl _ _⟩
  case round =>
    obtain ⟨k, hk, rfl, hok, hB⟩ := hrel
    have hBB := bgo H0.out.1 hB
    obtain ⟨c1, f1, l1⟩ := cells_of_block ((hB.block _ (cells_of_block H0.out.2).2.2).trans H0.out.2)
    have HB := Lib.hid (And.intro hB hBB)
    have HOK := Lib.hid hok
    clear hok
    by_cases hlt : k < f.tallies.length
    · have htt := HT.out.below hBB (Nat.le_refl _)
      obtain ⟨g, off, rfl, hg, d0, d1, d2, d3, d4⟩ := TalliesAt.cell htt hlt
      have hsu := talTo_succ hlt
      obtain ⟨z, hz⟩ : ∃ z, okTally f f.tallies[k] = z := ⟨_, rfl⟩
      have HBAD := Lib.hid (fun hf : z = false => talTo_bad hlt (hz.trans hf))
      rw [hz] at hsu
      rw [okTally_parts] at hz
      have HSU := Lib.hid hsu
      have hltI : (k : Int) < f.tallies.length := by omega
      clear hB hBB htt hsu
      generalize f.tallies[k] = y at *
      obtain ⟨y0, y1, y2, y3, y4⟩ := y
      simp only at d0 d1 d2 d3 d4 hz
      cases hA : inB y0 0 (f.weeders - 1)
      · obtain rfl : z = false := by rw [← hz, hA]; rfl
        have HA := Lib.hid hA
        have HHZ := Lib.hid hz
        obtain rfl : q = 1 := by rw [← HQ.out, if_pos (HBAD.out rfl)]
        clear hA hz
        go_wp2_with fail
        refine (rIn_any _ _ _ _).mono ?_
        rw [HA.out]
        rintro e w2 ⟨rfl, hb2⟩
        have HB2 := Lib.hid hb2
        clear hb2
        go_wp2_with fail
        go_returns
        exact ⟨by simp, bgo HB.out.2 (bgo (bgoAlloc (Below.refl _ _) _) HB2.out)⟩
      cases hC : inB y1 0 (f.rows - 1)
      · obtain rfl : z = false := by rw [← hz, hA, hC]; rfl
        have HA := Lib.hid hA
        have HC := Lib.hid hC
        have HHZ := Lib.hid hz
        obtain rfl : q = 1 := by rw [← HQ.out, if_pos (HBAD.out rfl)]
        clear hA hC hz
        go_wp2_with fail
        refine (rIn_any _ _ _ _).mono ?_
        rw [HA.out]
        rintro e w2 ⟨rfl, hb⟩
        have hBx : Below wr.heap.size wr w2 := by exact bgo (bgoAlloc (Below.refl _ _) _) hb
        have hKx : w2.heap[wr.heap.size]? = some (.cells #[iv y0, iv y1, iv y2, iv y3, iv y4] 155 (0, 0)) := (hb.block _ (by simp)).trans (heap_new0 _ _)
        have hTx := ((HB.out.1.mono (Nat.le_refl _)).trans (hBx.mono HB.out.1.size)).block _ (cells_of_block H0.out.2).2.2 |>.trans H0.out.2
        obtain ⟨d0, e0, l9⟩ := cells_of_block hKx
        obtain ⟨c1, f1, l1⟩ := cells_of_block hTx
        have HBx := Lib.hid hBx
        have HKx := Lib.hid (And.intro hKx hTx)
        clear hb hKx hTx hBx
        go_wp2_with fail
        refine (rIn_any _ _ _ _).mono ?_
        rw [HC.out]
        rintro e w3 ⟨rfl, hb3⟩
        have HB3 := Lib.hid hb3
        clear hb3
        go_wp2_with fail
        go_returns
        exact ⟨by simp, bgo HB.out.2 (bgo HBx.out HB3.out)⟩
      cases hD : inB y2 y1 (f.rows - 1)
      · obtain rfl : z = false := by rw [← hz, hA, hC, hD]; rfl
        have HA := Lib.hid hA
        have HC := Lib.hid hC
        have HD := Lib.hid hD
        have HHZ := Lib.hid hz
        obtain rfl : q = 1 := by rw [← HQ.out, if_pos (HBAD.out rfl)]
        clear hA hC hD hz
        go_wp2_with fail
        refine (rIn_any _ _ _ _).mono ?_
        rw [HA.out]
        rintro e w2 ⟨rfl, hb⟩
        have hBx : Below wr.heap.size wr w2 := by exact bgo (bgoAlloc (Below.refl _ _) _) hb
        have hKx : w2.heap[wr.heap.size]? = some (.cells #[iv y0, iv y1, iv y2, iv y3, iv y4] 155 (0, 0)) := (hb.block _ (by simp)).trans (heap_new0 _ _)
        have hTx := ((HB.out.1.mono (Nat.le_refl _)).trans (hBx.mono HB.out.1.size)).block _ (cells_of_block H0.out.2).2.2 |>.trans H0.out.2
        obtain ⟨d0, e0, l9⟩ := cells_of_block hKx
        obtain ⟨c1, f1, l1⟩ := cells_of_block hTx
        have HBx := Lib.hid hBx
        have HKx := Lib.hid (And.intro hKx hTx)
        clear hb hKx hTx hBx
        go_wp2_with fail
        refine (rIn_any _ _ _ _).mono ?_
        rw [HC.out]
        rintro e w3 ⟨rfl, hb⟩
        have hBy : Below wr.heap.size wr w3 := bgo HBx.out hb
        have hKy := (hb.block _ (cells_of_block HKx.out.1).2.2).trans HKx.out.1
        have hTy := (hb.block _ (cells_of_block HKx.out.2).2.2).trans HKx.out.2
        obtain ⟨d0, e0, l9⟩ := cells_of_block hKy
        obtain ⟨c1, f1, l1⟩ := cells_of_block hTy
        have HBy := Lib.hid hBy
        have HKy := Lib.hid (And.intro hKy hTy)
        clear hb hKy hTy hBy
        go_wp2_with fail
        refine (rIn_any _ _ _ _).mono ?_
        rw [HD.out]
        rintro e w4 ⟨rfl, hb3⟩
        have HB3 := Lib.hid hb3
        clear hb3
        go_wp2_with fail
        go_returns
        exact ⟨by simp, bgo HB.out.2 (bgo HBy.out HB3.out)⟩
      have HA := Lib.hid hA
      have HC := Lib.hid hC
      have HD := Lib.hid hD
      obtain ⟨s, hs⟩ : ∃ s, okR (y3, y4) f.rows = s := ⟨_, rfl⟩
      obtain rfl : s = z := by rw [← hz, hA, hC, hD, ← hs]; rfl
      have HS := Lib.hid hs
      clear hA hC hD hz hs
      go_wp2_with fail
      refine (rIn_any _ _ _ _).mono ?_
      rw [HA.out]
      rintro e w2 ⟨rfl, hb⟩
      have hBx : Below wr.heap.size wr w2 := by exact bgo (bgoAlloc (Below.refl _ _) _) hb
      have hKx : w2.heap[wr.heap.size]? = some (.cells #[iv y0, iv y1, iv y2, iv y3, iv y4] 155 (0, 0)) := (hb.block _ (by simp)).trans (heap_new0 _ _)
      have hTx := ((HB.out.1.mono (Nat.le_refl _)).trans (hBx.mono HB.out.1.size)).block _ (cells_of_block H0.out.2).2.2 |>.trans H0.out.2
      obtain ⟨d0, e0, l9⟩ := cells_of_block hKx
      obtain ⟨c1, f1, l1⟩ := cells_of_block hTx
      have HBx := Lib.hid hBx
      have HKx := Lib.hid (And.intro hKx hTx)
      clear hb hKx hTx hBx
      go_wp2_with fail
      refine (rIn_any _ _ _ _).mono ?_
      rw [HC.out]
      rintro e w3 ⟨rfl, hb⟩
      have hBy : Below wr.heap.size wr w3 := bgo HBx.out hb
      have hKy := (hb.block _ (cells_of_block HKx.out.1).2.2).trans HKx.out.1
      have hTy := (hb.block _ (cells_of_block HKx.out.2).2.2).trans HKx.out.2
      obtain ⟨d0, e0, l9⟩ := cells_of_block hKy
      obtain ⟨c1, f1, l1⟩ := cells_of_block hTy
      have HBy := Lib.hid hBy
      have HKy := Lib.hid (And.intro hKy hTy)
      clear hb hKy hTy hBy
      go_wp2_with fail
      refine (rIn_any _ _ _ _).mono ?_
      rw [HD.out]
      rintro e w4 ⟨rfl, hb⟩
      have hBz : Below wr.heap.size wr w4 := bgo HBy.out hb
      obtain ⟨d0, e0, l9⟩ := cells_of_block ((hb.block _ (cells_of_block HKy.out.1).2.2).trans HKy.out.1)
      obtain ⟨c1, f1, l1⟩ := cells_of_block ((hb.block _ (cells_of_block HKy.out.2).2.2).trans HKy.out.2)
      have HBz := Lib.hid hBz
      clear hb hBz
      go_wp2_with fail
      refine (rWithin_any (y3, y4) f.rows _).mono ?_
      rw [HS.out]
      rintro e w5 ⟨rfl, hb3⟩
      have HB3 := Lib.hid hb3
      clear hb3
      cases s
      · obtain rfl : q = 1 := by rw [← HQ.out, if_pos (HBAD.out rfl)]
        go_wp2_with fail
        go_returns
        exact ⟨by simp, bgo HB.out.2 (bgo HBz.out HB3.out)⟩
      · go_wp2_with fail
        go_roundw
        case rel => exact ⟨k + 1, by omega, by go_num, by rw [HSU.out, HOK.out]; rfl, bgo HB.out.1 (bgo HBz.out HB3.out)⟩
        case measure => simp [intOf]; omega
    · have hkl : k = f.tallies.length := by omega
      have hall : f.tallies.all (okTally f) = true := by
        have := HOK.out
        unfold talTo at this
        rwa [hkl, List.take_length] at this
      have hq2 : q = if 2500 < (f.weeders + 1) ^ f.rows.toNat then 3 else 0 := by rw [← HQ.out, hall, if_neg (by simp)]
      have hnl : ¬ (k : Int) < f.tallies.length := by omega
      have HM := Lib.hid (fun W => rMany_any f (.slice o f.tallies.length c) W (by omega) (by omega) (by omega) (by omega))
      obtain ⟨m, hm⟩ : ∃ m, (f.weeders + 1) ^ f.rows.toNat = m := ⟨_, rfl⟩
      rw [hm] at HM hq2
      have HQ2 := Lib.hid hq2
      clear hB hBB hall HQ hm hq2
      go_wp2_with fail
      refine (HM.out _).mono ?_
      rintro e w2 ⟨rfl, hb2⟩
      have HB2 := Lib.hid hb2
      clear hb2
      by_cases hm : 2500 < m
      · obtain rfl : q = 3 := by rw [HQ2.out, if_pos hm]
        go_wp2_with fail
        go_returns
        exact ⟨by simp, bgo HB.out.2 HB2.out⟩
      · obtain rfl : q = 0 := by rw [HQ2.out, if_neg hm]
        go_wp2_with fail
        go_returns
        exact ⟨by simp, bgo HB.out.2 HB2.out⟩

/-- **The error of a field, by the reference.** -/
theorem rFault_any (f : FieldD) (tv : Value) (w : World) (hx : TalliesAt w tv f.tallies) : Calls Tryz.prog 75 #[fv f tv] w (PV (iv (faultF f)) w) := by
  obtain ⟨o, c, rfl⟩ := hx.open
  by_cases ha : 7 < f.rows ∨ 3 < f.weeders ∨ 5 < f.tallies.length
  · rw [show faultF f = 3 from by unfold faultF; rw [if_pos ha]]
    by_cases a1 : 7 < f.rows
    · exact rFault_lim1 f o _ c w a1
    by_cases a2 : 3 < f.weeders
    · exact rFault_lim2 f o _ c w a1 a2
    exact rFault_lim3 f o _ c w a1 a2 (by omega)
  obtain ⟨a1, a2, a3⟩ : ¬ 7 < f.rows ∧ ¬ 3 < f.weeders ∧ ¬ (5 : Int) < f.tallies.length := by omega
  rw [show faultF f = if f.rows < 1 ∨ f.weeders < 1 ∨ okR f.left f.rows = false ∨ f.tallies.all (okTally f) = false then 1 else if 2500 < (f.weeders + 1) ^ f.rows.toNat then 3 else 0 from by
    unfold faultF; rw [if_neg ha]]
  by_cases b1 : f.rows < 1
  · rw [if_pos (.inl b1)]
    exact rFault_arg1 f o _ c w a1 a2 a3 b1
  by_cases b2 : f.weeders < 1
  · rw [if_pos (.inr (.inl b2))]
    exact rFault_arg2 f o _ c w a1 a2 a3 b1 b2
  by_cases b3 : okR f.left f.rows = false
  · rw [if_pos (.inr (.inr (.inl b3)))]
    exact rFault_arg3 f o _ c w a1 a2 a3 b1 b2 b3
  have hbody := rFault_body f o c w hx a1 a2 a3 b1 b2 (by simpa using b3)
  by_cases b4 : f.tallies.all (okTally f) = false
  · rw [if_pos b4] at hbody
    rw [if_pos (.inr (.inr (.inr b4)))]
    exact hbody
  · rw [if_neg b4] at hbody
    rw [if_neg (by simp only [not_or]; exact ⟨b1, b2, b3, b4⟩)]
    exact hbody

/-! ### Thin -/
def thinF (f : FieldD) : Bool := decide (f.tallies.length ≤ 7) && (decide (faultF f ≠ 0) || decide ((f.weeders + 1) ^ f.rows.toNat ≤ 250))

theorem rThin_any (f : FieldD) (tv : Value) (w : World) (hx : TalliesAt w tv f.tallies) : Calls Tryz.prog 74 #[fv f tv] w (PV (.bool (thinF f)) w) := by
  obtain ⟨o, c, rfl⟩ := hx.open
  obtain ⟨q, hq⟩ : ∃ q, thinF f = q := ⟨_, rfl⟩
  rw [hq]
  have HQ := Lib.hid hq
  have HT := Lib.hid hx
  clear hq hx
  by_cases h1 : (f.tallies.length : Int) ≤ 7
  case neg =>
    obtain rfl : q = false := by rw [← HQ.out]; simp [thinF]; omega
    go_enter Tryz.func74, Tryz.ntmps74
    go_wp2
    go_returns
    exact ⟨by simp, (by repeat (first | exact Below.refl _ _ | assumption | refine bgo ?_ (by assumption) | refine bgoAlloc ?_ _ | refine bgoDrew ?_ | refine bgoSet ?_ (by simp; omega) _))⟩
  by_cases h4 : faultF f = 0
  case neg =>
    obtain rfl : q = true := by rw [← HQ.out]; simp [thinF, h4]; omega
    obtain ⟨z, hf⟩ : ∃ z, faultF f = z := ⟨_, rfl⟩
    have h5 : (z != 0) = true := by rw [← hf]; simpa using h4
    have HFF := Lib.hid hf
    clear hf h4
    go_enter Tryz.func74, Tryz.ntmps74
    go_wp2_with fail
    refine (rFault_any f _ _ (HT.out.alloc _)).mono ?_
    rw [HFF.out]
    rintro e W1 ⟨rfl, hb⟩
    have HB := Lib.hid hb
    clear hb
    go_wp2_with fail
    go_returns
    exact ⟨by simp, bgo (bgoAlloc (Below.refl _ _) _) HB.out⟩
  have hS := soundF_of h4
  have HM := Lib.hid (fun W => rMany_any f (.slice o f.tallies.length c) W hS.rows0 hS.rows1 hS.weed0 hS.weed1)
  obtain ⟨m, hm⟩ : ∃ m, (f.weeders + 1) ^ f.rows.toNat = m := ⟨_, rfl⟩
  obtain rfl : q = decide (m ≤ 250) := by
    rw [← HQ.out, ← hm]
    simp only [thinF]
    rw [decide_eq_true (show f.tallies.length ≤ 7 by omega)]
    simp [h4]
  rw [hm] at HM
  have H4 := Lib.hid h4
  clear hm h4 hS
  go_enter Tryz.func74, Tryz.ntmps74
  go_wp2_with fail
  refine (rFault_any f _ _ (HT.out.alloc _)).mono ?_
  rw [H4.out]
  rintro e W1 ⟨rfl, hb⟩
  obtain ⟨hc, hf⟩ := bcell hb
  have hz0 : w.heap.size < W1.heap.size := by have := hb.size; simp only [World.size_alloc] at this; omega
  have HB := Lib.hid hb
  clear hb
  go_wp2_with fail
  refine (HM.out _).mono ?_
  rintro e W2 ⟨rfl, hb⟩
  have HB2 := Lib.hid hb
  clear hb
  go_wp2_with fail
  go_returns
  exact ⟨by simp, bgo (bgo (bgoAlloc (Below.refl _ _) _) HB.out) HB2.out⟩

end Go.Proofs.YtdjgikcnmokjkaaGreat

namespace Go.Proofs.YtdjgikcnmokjkaaGreat
open Go.RowKit Go.RG Go.SL Go.Shelf Cou Go.TB
set_option maxHeartbeats 400000
set_option maxRecDepth 10000

set_option maxHeartbeats 1000000 in
theorem rBits_any (n P : Nat) (w : World) (hn : n < 2 ^ P) (hP : P ≤ 16) : Calls Tryz.prog 51 #[iv n] w (PInts (bitsL n) w) := by
  have hnI : (n : Int) ≤ 65536 := by
    have : 2 ^ P ≤ 2 ^ 16 := Nat.pow_le_pow_right (by omega) hP
    omega
  have HN := Lib.hid hn
  clear hn
  go_enter Tryz.func51, Tryz.ntmps51
  go_wp2_with fail
  go_loopw [3, 4] (fun o u wr => ∃ p : Nat, p ≤ P ∧ u = .int .i64 p ∧ ∃ oo oc, o = .slice oo (bitsTo n p).length oc ∧ wr.ownsRow w.heap.size 3 1 (.slice oo (bitsTo n p).length oc) (bitsTo n p).length (intCells (bitsTo n p)) ∧ Below w.heap.size w wr) (fun _ u _ => P - (intOf u).toNat)
  case atStart => exact ⟨0, Nat.zero_le _, rfl, none, 0, rfl, ⟨rfl, .inl ⟨rfl, rfl⟩⟩, Below.refl _ _⟩
  case round =>
    obtain ⟨p, hp, rfl, oo, oc, rfl, hown, hB⟩ := hrel
    have hlen := bitsTo_len n p
    have hdI : (n : Int) / 2 ^ p = ((n / 2 ^ p : Nat) : Int) := by norm_cast
    have hbit := bit_at n p
    have hdle : n / 2 ^ p ≤ n := Nat.div_le_self _ _
    have hz : n / 2 ^ p = 0 → n < 2 ^ p := fun h => by
      rcases Nat.lt_or_ge n (2 ^ p) with h1 | h1
      · exact h1
      · have := Nat.div_pos h1 (Nat.two_pow_pos p); omega
    have hge : P ≤ p → n / 2 ^ p = 0 := fun h => Nat.div_eq_of_lt (Nat.lt_of_lt_of_le HN.out (Nat.pow_le_pow_right (by omega) h))
    generalize n / 2 ^ p = d at *
    have hd1 : (d : Int) ≤ 65536 := by omega
    have HZ := Lib.hid hz
    have HOW := Lib.hid hown
    have HB := Lib.hid hB
    by_cases hd0 : 0 < d
    · have hpP : p < P := by
        rcases Nat.lt_or_ge p P with h1 | h1
        · exact h1
        · have := hge h1; omega
      have hd0I : (0 : Int) < d := by omega
      clear hge hz hown hB
      cases hb : n.testBit p
      · rw [hb] at hbit
        have hno := bitsTo_no hb
        have HNO := Lib.hid hno
        clear hno hb
        go_wp2_with fail
        go_roundw
        case rel =>
          refine ⟨p + 1, by omega, by go_num, oo, oc, ?_⟩
          rw [HNO.out]
          exact ⟨rfl, HOW.out, HB.out⟩
        case measure => simp [intOf]; omega
      · rw [hb] at hbit
        have hyes := bitsTo_yes hb
        have HYES := Lib.hid hyes
        clear hyes hb
        have hz := HB.out.size
        go_wp2_with (at_builtin; go_loud (refine wpList_append_at rfl _ _ tInts rfl w.heap.size (.slice oo (bitsTo n p).length oc) (bitsTo n p).length (intCells (bitsTo n p)) rfl (owns_ext (Ms := []) HOW.out (Ext.of_below ((Below.refl _ _).alloc (Nat.le_refl _) _)) (by simp)) (.slice (some ⟨wr.heap.size, 0, none⟩) 1 1) 1 (intCells [(p : Int)]) rfl (SlAt.of_block 1 1 (heap_new0 _ _) rfl (by decide)) (one_ints _) (by omega) (by omega) (by simp; omega) ?_))
        intro v' W6 hown6 hgr6 _
        obtain ⟨o6, c6, rfl⟩ := owns_slice hown6
        have hpu := ap_push0 HB.out HOW.out (Ext.of_below ((Below.refl _ _).alloc (Nat.le_refl _) _)) hown6 hgr6 (Nat.le_refl _) hz
        have HP := Lib.hid hpu
        have HO6 := Lib.hid hown6
        clear hpu hown6 hgr6
        go_wp2_with fail
        go_roundw
        case rel =>
          have e : (bitsTo n (p + 1)).length = (bitsTo n p).length + 1 := by rw [HYES.out]; simp
          refine ⟨p + 1, by omega, by go_num, o6, c6, by rw [e], ?_, HP.out.1⟩
          rw [e, HYES.out, intCells_app]
          exact HO6.out
        case measure => simp [intOf]; omega
    · obtain rfl : d = 0 := by omega
      clear hge hz hown hB
      go_wp2_with fail
      go_returns
      refine ⟨.slice oo (bitsTo n p).length oc, by simp, ?_, HB.out⟩
      rw [bitsL_eq (HZ.out (by trivial))]
      exact SlAt.of_owns HOW.out


/-- It returns a list of the call's own that reads so. -/
def POwnI (l : List Int) (w : World) (e : Ending) (w' : World) : Prop := ∃ v, e = .returned v ∧ w'.ownsRow w.heap.size 3 1 v l.length (intCells l) ∧ Below w.heap.size w w'

/-- The first numbers of the list with a number, and the rest of the number. -/
def nthTo (f : FieldD) (n : Int) (k : Nat) : List Int := nthW (List.replicate k (-1, f.weeders - 1)) n
def rstTo (f : FieldD) (n : Int) (k : Nat) : Int := restN (List.replicate k (-1, f.weeders - 1)) n
theorem sizeW (f : FieldD) : sizeR (-1, f.weeders - 1) = f.weeders + 1 := by unfold sizeR; simp only; omega
theorem nthTo_succ (f : FieldD) (n : Int) (k : Nat) : nthTo f n (k + 1) = nthTo f n k ++ [rstTo f n k % (f.weeders + 1) - 1] := by
  unfold nthTo rstTo
  rw [List.replicate_succ', nthW_snoc, sizeW]
  simp only
  congr 2
  omega
theorem rstTo_succ (f : FieldD) (n : Int) (k : Nat) : rstTo f n (k + 1) = rstTo f n k / (f.weeders + 1) := by
  unfold rstTo
  rw [List.replicate_succ', restN_snoc, sizeW]
theorem rstTo_bd (f : FieldD) (h : 1 ≤ f.weeders) (n : Int) (hn : 0 ≤ n) (k : Nat) : 0 ≤ rstTo f n k ∧ rstTo f n k ≤ n := by
  refine restN_bd _ n (fun r hr => ?_) hn
  rw [List.eq_of_mem_replicate hr, sizeW]
  omega
theorem nthTo_len (f : FieldD) (n : Int) (k : Nat) : (nthTo f n k).length = k := by unfold nthTo; rw [nthW_len]; simp
theorem nthTo_all (f : FieldD) (n : Int) : nthTo f n f.rows.toNat = nthW (rangesF f) n := rfl

set_option maxHeartbeats 2000000 in
theorem rNth_any (f : FieldD) (hS : SoundF f) (tv : Value) (n : Int) (hn0 : 0 ≤ n) (hn1 : n ≤ 100000) (w : World) :
    Calls Tryz.prog 89 #[fv f tv, iv n] w (POwnI (nthW (rangesF f) n) w) := by
  have hr0 := hS.rows0
  have hr1 := hS.rows1
  have hw0 := hS.weed0
  have hw1 := hS.weed1
  obtain ⟨R, hR⟩ : ∃ R : Nat, f.rows = R := ⟨f.rows.toNat, by omega⟩
  have hR7 : R ≤ 7 := by omega
  have HN := Lib.hid hn0
  have HQ : Hid (nthW (rangesF f) n = nthTo f n R) := Lib.hid (by rw [← nthTo_all, hR, Int.toNat_natCast])
  obtain ⟨q, hq⟩ : ∃ q, nthW (rangesF f) n = q := ⟨_, rfl⟩
  rw [hq] at HQ ⊢
  have HR := Lib.hid hR
  clear hS hR hq
  go_enter Tryz.func89, Tryz.ntmps89
  go_wp2_with fail
  refine gworld fun W0 hW0 => ?_
  have hB0 : Below w.heap.size w W0 := by rw [hW0]; exact (by repeat (first | exact Below.refl _ _ | assumption | refine bgo ?_ (by assumption) | refine bgoAlloc ?_ _ | refine bgoDrew ?_ | refine bgoSet ?_ (by simp; omega) _))
  have hK0 : W0.heap[w.heap.size]? = some (.cells (rfcells f tv) 26 (0, 0)) := by rw [hW0]; exact heap_new0 _ _
  have H0 := Lib.hid (And.intro hB0 hK0)
  clear hW0 hB0 hK0
  go_loopw [1, 5, 6] (fun m o u wr => ∃ k : Nat, k ≤ R ∧ u = .int .i64 k ∧ m = .int .i64 (rstTo f n k) ∧ ∃ oo oc, o = .slice oo k oc ∧ wr.ownsRow W0.heap.size 3 1 (.slice oo k oc) k (intCells (nthTo f n k)) ∧ Below W0.heap.size W0 wr) (fun _ _ u _ => R - (intOf u).toNat)
  case atStart => exact ⟨0, Nat.zero_le _, rfl, rfl, none, 0, rfl, ⟨rfl, .inl ⟨rfl, rfl⟩⟩, Below.refl _ _⟩
  case round =>
    obtain ⟨k, hk, rfl, rfl, oo, oc, rfl, hown, hB⟩ := hrel
    obtain ⟨c1, f1, l1⟩ := cells_of_block ((hB.block _ (cells_of_block H0.out.2).2.2).trans H0.out.2)
    have HB := Lib.hid (And.intro hB (bgo H0.out.1 hB))
    by_cases hlt : k < R
    · obtain ⟨m0, m1⟩ := rstTo_bd f hw0 n HN.out k
      have HS := Lib.hid (And.intro (nthTo_succ f n k) (rstTo_succ f n k))
      have hrow : (k : Int) < f.rows := by have := HR.out; omega
      generalize rstTo f n k = m at *
      have hmm0 : 0 ≤ m % (f.weeders + 1) := Int.emod_nonneg _ (by omega)
      have hmm1 : m % (f.weeders + 1) < f.weeders + 1 := Int.emod_lt_of_pos _ (by omega)
      have hmd0 : 0 ≤ m / (f.weeders + 1) := Int.ediv_nonneg m0 (by omega)
      have hmd1 : m / (f.weeders + 1) ≤ m := Int.ediv_le_self _ m0
      have hz : ¬ f.weeders + 1 = 0 := by omega
      have hzb : (f.weeders + 1 == 0) = false := by simpa using hz
      have HOW := Lib.hid hown
      have hs0 : W0.heap.size ≤ wr.heap.size := hB.size
      clear hB
      cases oo with
      | none =>
        clear hown
        go_upto_region 5 with (fail)
        refine wp_region_rg 15 [] (some 8) [(7, Spec.slice wr.heap.size #[iv (m % (f.weeders + 1) - 1)] 3 1), (8, ⟨fun _ v => ∃ o c, v = .slice o (k + 1) c, fun _ v Wx => Wx.ownsRow W0.heap.size 3 1 v (k + 1) (intCells (nthTo f n (k + 1)))⟩)] (by as_aux_lemma => kernel_rfl) (by as_aux_lemma => kernel_rfl) ?_
        simp only [List.take_succ_cons, List.take_zero, List.drop_succ_cons, List.drop_zero]
        repeat (first | (refine tree_det (by rfl) _ (by rfl) (fun W hW => by go_simp; (try simp (disch := omega) only [IntWalk.i64_in, Int.tmod_eq_emod_of_nonneg]); try rfl) ?_; simp only [Act.put, List.setIfInBounds_toArray, List.set_cons_succ, List.set_cons_zero]) | (refine tree_skip (by rfl) (by rfl) ?_; simp only [Act.put, List.setIfInBounds_toArray, List.set_cons_succ, List.set_cons_zero]))
        refine tree_slice wr.heap.size _ _ 1 (by rfl) (Nat.le_refl _) (by rfl) (by first | (simp; done) | simpa using hgl) (by simp) (fun W hW => by go_simp; try rfl) (fun b2 => ?_)
        simp only [Act.put, List.setIfInBounds_toArray, List.set_cons_succ, List.set_cons_zero]
        refine tree_some _ (by rfl) (by rfl) (by exact ⟨.slice none (k + 1) 0, none, 0, rfl⟩) (fun Wa hE hF => ?_) (fun v Wa Wb ho hE => ?_) (fun v hv => ?_)
        · have hE' : Ext [] wr Wa := hE
          obtain ⟨b', hb', hge, hcc⟩ := hF _ (List.Mem.head _) (by kernel_rfl)
          cases hb'
          have hown6 := owns_ext (Ms := []) HOW.out hE' (by simp)
          have hsrc : SlAt 1 Wa (.slice (some ⟨b2, 0, none⟩) 1 1) 1 (intCells [m % (f.weeders + 1) - 1]) := SlAt.of_block 1 1 hcc rfl (by decide)
          refine Does.mono (does_append_at tInts (by rfl) (by rfl) hown6 (by rfl) hsrc (one_ints _) (by omega) (by omega) (by have := hE'.size; omega)) ?_
          rintro v' Wc ⟨ho, hgr, hcase⟩
          refine ⟨owns_slice ho, ?_, ⟨hgr.os, hgr.tape, hgr.output, hgr.size, fun b hb hn => hgr.block b hb (fun e => by first | (simp [Value.ownBlock] at e; done) | (simp [Value.ownBlock] at e; exact hn (by simp [e])))⟩⟩
          show Wc.ownsRow _ _ _ v' (k + 1) _
          rw [HS.out.1, intCells_app]
          exact ho
        · exact owns_ext (Ms := []) ho hE (by simp)
        obtain ⟨o3, c3, rfl⟩ := hv
        simp only [Act.put, List.setIfInBounds_toArray, List.set_cons_succ, List.set_cons_zero]
        repeat (first | (refine tree_det (by rfl) _ (by rfl) (fun W hW => by go_simp; (try simp (disch := omega) only [IntWalk.i64_in, Int.tdiv_eq_ediv_of_nonneg]); try rfl) ?_; simp only [Act.put, List.setIfInBounds_toArray, List.set_cons_succ, List.set_cons_zero]) | (refine tree_skip (by rfl) (by rfl) ?_; simp only [Act.put, List.setIfInBounds_toArray, List.set_cons_succ, List.set_cons_zero]))
        intro W8 hE hF
        have hE' : Ext [] wr W8 := hE
        have ho8 : W8.ownsRow W0.heap.size 3 1 (.slice o3 (k + 1) c3) (k + 1) (intCells (nthTo f n (k + 1))) := hF _ (List.Mem.head _)
        have hB8 : Below W0.heap.size W0 W8 := ⟨hE'.os.trans HB.out.1.os, hE'.tape.trans HB.out.1.tape, hE'.output.trans HB.out.1.output, Nat.le_trans HB.out.1.size hE'.size, fun b hb => (hE'.block b (by have := HB.out.1.size; omega) (by simp <;> omega)).trans (HB.out.1.block b hb)⟩
        have H8 := Lib.hid (And.intro ho8 hB8)
        clear hE hF hE' ho8 hB8 c1 f1 l1
        go_wp2_with fail
        go_roundw
        case rel => exact ⟨k + 1, by omega, by go_num, by rw [HS.out.2], o3, c3, rfl, H8.out.1, H8.out.2⟩
        case measure => simp [intOf]; omega
      | some g =>
        obtain ⟨gb, go_, gs⟩ := g
        have hge := (owns_ge hown gb rfl)
        have hgl : gb < wr.heap.size := hge.2
        have hgw : W0.heap.size ≤ gb := hge.1
        have hg0 : ¬ w.heap.size = gb := by have := (cells_of_block H0.out.2).2.2; omega
        have hg1 : ¬ gb = w.heap.size := fun e => hg0 e.symm
        clear hown hge
        go_upto_region 5 with (fail)
        refine wp_region_rg 15 [gb] (some 8) [(7, Spec.slice wr.heap.size #[iv (m % (f.weeders + 1) - 1)] 3 1), (8, ⟨fun _ v => ∃ o c, v = .slice o (k + 1) c, fun _ v Wx => Wx.ownsRow W0.heap.size 3 1 v (k + 1) (intCells (nthTo f n (k + 1)))⟩)] (by as_aux_lemma => kernel_rfl) (by as_aux_lemma => kernel_rfl) ?_
        simp only [List.take_succ_cons, List.take_zero, List.drop_succ_cons, List.drop_zero]
        repeat (first | (refine tree_det (by rfl) _ (by rfl) (fun W hW => by go_simp; (try simp (disch := omega) only [IntWalk.i64_in, Int.tmod_eq_emod_of_nonneg]); try rfl) ?_; simp only [Act.put, List.setIfInBounds_toArray, List.set_cons_succ, List.set_cons_zero]) | (refine tree_skip (by rfl) (by rfl) ?_; simp only [Act.put, List.setIfInBounds_toArray, List.set_cons_succ, List.set_cons_zero]))
        refine tree_slice wr.heap.size _ _ 1 (by rfl) (Nat.le_refl _) (by rfl) (by first | (simp; done) | simpa using hgl) (by simp) (fun W hW => by go_simp; try rfl) (fun b2 => ?_)
        simp only [Act.put, List.setIfInBounds_toArray, List.set_cons_succ, List.set_cons_zero]
        refine tree_some _ (by rfl) (by rfl) (by exact ⟨.slice none (k + 1) 0, none, 0, rfl⟩) (fun Wa hE hF => ?_) (fun v Wa Wb ho hE => ?_) (fun v hv => ?_)
        · have hE' : Ext [] wr Wa := hE
          obtain ⟨b', hb', hge, hcc⟩ := hF _ (List.Mem.head _) (by kernel_rfl)
          cases hb'
          have hown6 := owns_ext (Ms := []) HOW.out hE' (by simp)
          have hsrc : SlAt 1 Wa (.slice (some ⟨b2, 0, none⟩) 1 1) 1 (intCells [m % (f.weeders + 1) - 1]) := SlAt.of_block 1 1 hcc rfl (by decide)
          refine Does.mono (does_append_at tInts (by rfl) (by rfl) hown6 (by rfl) hsrc (one_ints _) (by omega) (by omega) (by have := hE'.size; omega)) ?_
          rintro v' Wc ⟨ho, hgr, hcase⟩
          refine ⟨owns_slice ho, ?_, ⟨hgr.os, hgr.tape, hgr.output, hgr.size, fun b hb hn => hgr.block b hb (fun e => by first | (simp [Value.ownBlock] at e; done) | (simp [Value.ownBlock] at e; exact hn (by simp [e])))⟩⟩
          show Wc.ownsRow _ _ _ v' (k + 1) _
          rw [HS.out.1, intCells_app]
          exact ho
        · exact owns_ext (Ms := []) ho hE (by simp)
        obtain ⟨o3, c3, rfl⟩ := hv
        simp only [Act.put, List.setIfInBounds_toArray, List.set_cons_succ, List.set_cons_zero]
        repeat (first | (refine tree_det (by rfl) _ (by rfl) (fun W hW => by go_simp; (try simp (disch := omega) only [IntWalk.i64_in, Int.tdiv_eq_ediv_of_nonneg]); try rfl) ?_; simp only [Act.put, List.setIfInBounds_toArray, List.set_cons_succ, List.set_cons_zero]) | (refine tree_skip (by rfl) (by rfl) ?_; simp only [Act.put, List.setIfInBounds_toArray, List.set_cons_succ, List.set_cons_zero]))
        intro W8 hE hF
        have hE' : Ext [gb] wr W8 := hE
        have ho8 : W8.ownsRow W0.heap.size 3 1 (.slice o3 (k + 1) c3) (k + 1) (intCells (nthTo f n (k + 1))) := hF _ (List.Mem.head _)
        have hB8 : Below W0.heap.size W0 W8 := ⟨hE'.os.trans HB.out.1.os, hE'.tape.trans HB.out.1.tape, hE'.output.trans HB.out.1.output, Nat.le_trans HB.out.1.size hE'.size, fun b hb => (hE'.block b (by have := HB.out.1.size; omega) (by simp <;> omega)).trans (HB.out.1.block b hb)⟩
        have H8 := Lib.hid (And.intro ho8 hB8)
        clear hE hF hE' ho8 hB8 c1 f1 l1
        go_wp2_with fail
        go_roundw
        case rel => exact ⟨k + 1, by omega, by go_num, by rw [HS.out.2], o3, c3, rfl, H8.out.1, H8.out.2⟩
        case measure => simp [intOf]; omega
    · have hkR : k = R := by omega
      have hrow : ¬ (k : Int) < f.rows := by have := HR.out; omega
      subst hkR
      have HOW := Lib.hid hown
      clear hB hown
      go_wp2_with fail
      go_returns
      refine ⟨.slice oo k oc, by simp, ?_, HB.out.2⟩
      rw [HQ.out, nthTo_len]
      exact owns_base HOW.out H0.out.1.size

end Go.Proofs.YtdjgikcnmokjkaaGreat
