/-
  The walk of TopKnown.
-/
import Derived.WalkKit
import Derived.WalkLawsBesides
import Derived.WalkSpells
import Derived.Outline
import Derived.Handy
import Derived.KernelRfl
import Derived.Lib.Hide
import Derived.Deep.Cut
import Derived.Test.YtdjgikcnmokjkaaRJ
namespace Go.Proofs.Ytdjgikcnmokjkaa
open Go.RowKit Go.RG Go.SL Go.Shelf Cou Go.TB
set_option maxHeartbeats 400000
set_option maxRecDepth 10000

theorem rates_bd (r8 : Int) : ∃ R, r8 % 50 + 1 = R ∧ 1 ≤ R ∧ R ≤ 50 := ⟨_, rfl, by omega, by omega⟩

theorem dueV_bd {f : FieldD} {rate : Int} (hS : SoundF f) (r0 : 1 ≤ rate) (r1 : rate ≤ 50) {a : List Int} (ha : a ∈ truthsF f []) {i : Nat} (hi : i < (dueV (wideL f rate) a).length) : 0 ≤ (dueV (wideL f rate) a)[i] ∧ (dueV (wideL f rate) a)[i] ≤ 350 := by
  rw [dueV_get hS ha]
  have := doneF_bd hS a (i : Int)
  refine ⟨Int.mul_nonneg (by omega) this.1, ?_⟩
  calc rate * doneF f a (i : Int) ≤ 50 * 7 := Int.mul_le_mul r1 this.2 this.1 (by omega)
    _ = 350 := rfl

set_option pp.deepTerms true in
set_option pp.maxSteps 300000 in
set_option maxHeartbeats 8000000 in
theorem TopKnown_thin (f : FieldD) (tv : Value) (r8 wh ot : Int) (w : World) (ht : TalliesAt w tv f.tallies) (_ : 0 ≤ r8 ∧ r8 ≤ 255) (_ : 0 ≤ wh ∧ wh ≤ 65535) (_ : 0 ≤ ot ∧ ot ≤ 65535) (hth : thinF f = false) :
    Calls Try.prog 3 #[fv f tv, .int .u8 r8, .int .u16 wh, .int .u16 ot] w (PV (.bool true) w) := by
  obtain ⟨to, tc, rfl⟩ := ht.open
  have HT := Lib.hid ht
  clear ht
  have HB0 := Lib.hid (show Below w.heap.size w (w.alloc (.cells #[iv f.rows, iv f.weeders, iv f.left.1, iv f.left.2, .slice to f.tallies.length tc] 26)) from bgoAlloc (Below.refl _ _) _)
  have HK0 := Lib.hid (heap_new0 w (.cells #[iv f.rows, iv f.weeders, iv f.left.1, iv f.left.2, .slice to f.tallies.length tc] 26))
  have HTH := Lib.hid hth
  clear hth
  go_enter Try.func3, Try.ntmps3
  go_wp2_with fail
  refine (rThin_any f _ _ (HT.out.below HB0.out (Nat.le_refl _))).mono ?_
  rw [HTH.out]
  rintro e W1 ⟨rfl, hb⟩
  have HB1 := Lib.hid (bgo HB0.out hb)
  have HK1 := Lib.hid ((hb.block _ (cells_of_block HK0.out).2.2).trans HK0.out)
  (try clear hc hf hl)
  obtain ⟨hc, hf, hl⟩ := cells_of_block HK1.out
  clear hb
  go_wp2_with fail
  refine (answered_any _).mono ?_
  rintro e W2 ⟨rfl, hb⟩
  have HBn := Lib.hid (bgo HB1.out hb)
  clear hb
  go_wp2_with fail
  go_returns
  exact ⟨by simp, HBn.out⟩

set_option pp.deepTerms true in
set_option pp.maxSteps 300000 in
set_option maxHeartbeats 8000000 in
theorem TopKnown_fault (f : FieldD) (tv : Value) (r8 wh ot : Int) (w : World) (ht : TalliesAt w tv f.tallies) (_ : 0 ≤ r8 ∧ r8 ≤ 255) (_ : 0 ≤ wh ∧ wh ≤ 65535) (_ : 0 ≤ ot ∧ ot ≤ 65535) (hth : thinF f = true) (hf0 : faultF f ≠ 0) :
    Calls Try.prog 3 #[fv f tv, .int .u8 r8, .int .u16 wh, .int .u16 ot] w (PV (.bool true) w) := by
  obtain ⟨to, tc, rfl⟩ := ht.open
  have HT := Lib.hid ht
  clear ht
  have HB0 := Lib.hid (show Below w.heap.size w (w.alloc (.cells #[iv f.rows, iv f.weeders, iv f.left.1, iv f.left.2, .slice to f.tallies.length tc] 26)) from bgoAlloc (Below.refl _ _) _)
  have HK0 := Lib.hid (heap_new0 w (.cells #[iv f.rows, iv f.weeders, iv f.left.1, iv f.left.2, .slice to f.tallies.length tc] 26))
  have HTH := Lib.hid hth
  obtain ⟨z, hz⟩ : ∃ z, faultF f = z := ⟨_, rfl⟩
  have h5 : (z != 0) = true := by rw [← hz]; simpa using hf0
  have HFF := Lib.hid hz
  clear hth hz hf0
  go_enter Try.func3, Try.ntmps3
  go_wp2_with fail
  refine (rThin_any f _ _ (HT.out.below HB0.out (Nat.le_refl _))).mono ?_
  rw [HTH.out]
  rintro e W1 ⟨rfl, hb⟩
  have HB1 := Lib.hid (bgo HB0.out hb)
  have HK1 := Lib.hid ((hb.block _ (cells_of_block HK0.out).2.2).trans HK0.out)
  (try clear hc hf hl)
  obtain ⟨hc, hf, hl⟩ := cells_of_block HK1.out
  clear hb
  go_wp2_with fail
  refine (rFault_any f _ _ (HT.out.below HB1.out (Nat.le_refl _))).mono ?_
  rw [HFF.out]
  rintro e W2 ⟨rfl, hb⟩
  have HB2 := Lib.hid (bgo HB1.out hb)
  have HK2 := Lib.hid ((hb.block _ (cells_of_block HK1.out).2.2).trans HK1.out)
  (try clear hc hf hl)
  obtain ⟨hc, hf, hl⟩ := cells_of_block HK2.out
  clear hb
  go_wp2_with fail
  refine (answered_any _).mono ?_
  rintro e W3 ⟨rfl, hb⟩
  have HBn := Lib.hid (bgo HB2.out hb)
  clear hb
  go_wp2_with fail
  go_returns
  exact ⟨by simp, HBn.out⟩

set_option pp.deepTerms true in
set_option pp.maxSteps 300000 in
set_option maxHeartbeats 8000000 in
theorem TopKnown_none (f : FieldD) (tv : Value) (r8 wh ot : Int) (w : World) (ht : TalliesAt w tv f.tallies) (h0 : 0 ≤ r8 ∧ r8 ≤ 255) (_ : 0 ≤ wh ∧ wh ≤ 65535) (_ : 0 ≤ ot ∧ ot ≤ 65535) (hth : thinF f = true) (hf0 : faultF f = 0) (hts0 : truthsF f [] = []) :
    Calls Try.prog 3 #[fv f tv, .int .u8 r8, .int .u16 wh, .int .u16 ot] w (PV (.bool true) w) := by
  obtain ⟨to, tc, rfl⟩ := ht.open
  have HT := Lib.hid ht
  clear ht
  have HB0 := Lib.hid (show Below w.heap.size w (w.alloc (.cells #[iv f.rows, iv f.weeders, iv f.left.1, iv f.left.2, .slice to f.tallies.length tc] 26)) from bgoAlloc (Below.refl _ _) _)
  have HK0 := Lib.hid (heap_new0 w (.cells #[iv f.rows, iv f.weeders, iv f.left.1, iv f.left.2, .slice to f.tallies.length tc] 26))
  have HTH := Lib.hid hth
  have HF0 := Lib.hid hf0
  have hS := soundF_of hf0
  have HS := Lib.hid hS
  obtain ⟨R, hR, hR1, hR2⟩ := rates_bd r8
  have hl5 := hS.tals
  have hw0 := hS.weed0
  have hw1 := hS.weed1
  clear hth hf0 hS
  go_enter Try.func3, Try.ntmps3
  go_wp2_with fail
  refine (rThin_any f _ _ (HT.out.below HB0.out (Nat.le_refl _))).mono ?_
  rw [HTH.out]
  rintro e W1 ⟨rfl, hb⟩
  have HB1 := Lib.hid (bgo HB0.out hb)
  have HK1 := Lib.hid ((hb.block _ (cells_of_block HK0.out).2.2).trans HK0.out)
  (try clear hc hf hl)
  obtain ⟨hc, hf, hl⟩ := cells_of_block HK1.out
  clear hb
  go_wp2_with fail
  refine (rFault_any f _ _ (HT.out.below HB1.out (Nat.le_refl _))).mono ?_
  rw [HF0.out]
  rintro e W2 ⟨rfl, hb⟩
  have HB2 := Lib.hid (bgo HB1.out hb)
  have HK2 := Lib.hid ((hb.block _ (cells_of_block HK1.out).2.2).trans HK1.out)
  (try clear hc hf hl)
  obtain ⟨hc, hf, hl⟩ := cells_of_block HK2.out
  clear hb
  go_wp2_with fail
  refine (rTruths_any f HS.out _ _ (HT.out.below HB2.out (Nat.le_refl _))).mono ?_
  rintro e W3 ⟨tsv, es, rfl, hts, hes, hb⟩
  obtain ⟨eo, ec, rfl⟩ := hts.1.open
  have HTS := Lib.hid hts
  have HES := Lib.hid hes
  have HB3 := Lib.hid (bgo HB2.out hb)
  have HK3 := Lib.hid ((hb.block _ (cells_of_block HK2.out).2.2).trans HK2.out)
  (try clear hc hf hl)
  obtain ⟨hc, hf, hl⟩ := cells_of_block HK3.out
  clear hb hts hes
  go_wp2_with fail
  refine (rField_any f _ _ (HT.out.below HB3.out (Nat.le_refl _)) (by omega)).mono ?_
  rintro e W4 ⟨tv1, rfl, ht1, hb⟩
  obtain ⟨to1, tc1, rfl⟩ := ht1.open
  have HT1 := Lib.hid ht1
  have HTS4 := Lib.hid (show ListsAt W4 (.slice eo es.length ec) es from ⟨HTS.out.1.below hb (Nat.le_refl _), fun e he => (HTS.out.2 e he).below hb (Nat.le_refl _)⟩)
  have HB4 := Lib.hid (bgo HB3.out hb)
  have HK4 := Lib.hid ((hb.block _ (cells_of_block HK3.out).2.2).trans HK3.out)
  (try clear hc hf hl)
  obtain ⟨hc, hf, hl⟩ := cells_of_block HK4.out
  clear hb ht1
  go_upto_region 5 with (fail)
  refine gworld fun W5 hW5 => ?_
  have hb : Below W4.heap.size W4 W5 := by rw [hW5]; exact (by repeat (first | exact Below.refl _ _ | assumption | refine bgo ?_ (by assumption) | refine bgoAlloc ?_ _ | refine bgoDrew ?_ | refine bgoSet ?_ (by simp; omega) _))
  have hKL : W5.heap[W4.heap.size]? = some (.cells #[iv f.rows, iv f.weeders, iv f.left.1, iv f.left.2, .slice to1 f.tallies.length tc1, iv R, iv 0, iv 2000, .slice none 0 0] 41 (0, 0)) := by
    rw [hW5, ← hR]
    first | exact heap_new0 _ _ | (simp [World.setCell, World.alloc]; done)
  have HR := Lib.hid hR
  have HTS5 := Lib.hid (show ListsAt W5 (.slice eo es.length ec) es from ⟨HTS4.out.1.below hb (Nat.le_refl _), fun e he => (HTS4.out.2 e he).below hb (Nat.le_refl _)⟩)
  have HT5 := Lib.hid (HT1.out.below hb (Nat.le_refl _))
  have HKL5 := Lib.hid hKL
  obtain ⟨lc, lf, ll⟩ := cells_of_block hKL
  have HB5 := Lib.hid (bgo HB4.out hb)
  have HK5 := Lib.hid ((hb.block _ (cells_of_block HK4.out).2.2).trans HK4.out)
  (try clear hc hf hl)
  obtain ⟨hc, hf, hl⟩ := cells_of_block HK5.out
  clear hb hKL hW5 hR
  generalize W4.heap.size = bl at *
  have HSE := Lib.hid (Settle_any (wideL f R) (.slice to1 f.tallies.length tc1) (.slice none 0 0) W5 HT5.out (SlAt.nil 3 W5) (by show -1000 ≤ f.weeders ∧ f.weeders ≤ 1000; omega))
  have hes0 : es = [] := by
    cases es with
    | nil => rfl
    | cons e es =>
      have : e.2 ∈ rtruths f := by rw [← HES.out]; simp
      rw [mem_rtruths HS.out, hts0] at this
      cases this
  subst hes0
  have HW := Lib.hid (wide_none (rate := R) HF0.out hts0)
  clear hts0
  go_wp2_with fail
  refine HSE.out.mono ?_
  rintro e W6 ⟨hb, ⟨_, rfl⟩ | ⟨h0', _⟩⟩
  case inr => rw [HW.out] at h0'; cases h0'
  rw [HW.out]
  have HB6 := Lib.hid (bgo HB5.out hb)
  have HK6 := Lib.hid ((hb.block _ (cells_of_block HK5.out).2.2).trans HK5.out)
  (try clear hc hf hl)
  obtain ⟨hc, hf, hl⟩ := cells_of_block HK6.out
  clear hb
  go_wp2_with fail
  refine (answered_any _).mono ?_
  rintro e W7 ⟨rfl, hb⟩
  have HBn := Lib.hid (bgo HB6.out hb)
  clear hb
  go_wp2_with fail
  go_returns
  exact ⟨by simp, HBn.out⟩
end Go.Proofs.Ytdjgikcnmokjkaa
