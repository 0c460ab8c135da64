/-
  Contracts of the reference: Many, Fault; of the law: Thin, ready.
-/
import Derived.WalkKit
import Derived.WalkLawsBesides
import Derived.WalkSpells
import Derived.Outline
import Derived.Handy
import Derived.KernelRfl
import Derived.Lib.Hide
import Derived.Test.YtoibfafmnaooaaaR1
import Derived.Test.YtoibfafmnaooaaaM8
namespace Go.Proofs.Ytoibfafmnaooaaa
open Go.RowKit Go.RG Go.SL Go.Shelf Cou
set_option maxHeartbeats 400000
set_option maxRecDepth 10000

theorem Many_any (h : HeapD) (wv tv xv' : Value) (w : World) (hw : PairsAt w wv h.wet) (hR : RangesOk h) :
    Calls Try.prog 39 #[hv h wv tv xv'] w (PV (iv (manyL h)) w) := by
  obtain ⟨ow, cw, rfl⟩ := hw.open
  have hlen := hw.len
  obtain ⟨h01, h02, h03⟩ := hR.start
  have HR := Lib.hid hR
  have HW := Lib.hid hw
  obtain ⟨q, hq⟩ : ∃ q, manyL h = q := ⟨_, rfl⟩
  rw [hq]
  have HQ := Lib.hid hq
  clear hw hR hq
  go_enter Try.func39, Try.ntmps39
  go_wp2_with fail
  refine (Size_any h.start _ h01 h02 (by omega)).mono ?_
  rintro e W1 ⟨rfl, hb⟩
  have HB1 := Lib.hid (show Below w.heap.size w W1 from bgo (bgoAlloc (Below.refl _ _) _) hb)
  have hA1 : W1.heap[w.heap.size]? = some (.cells #[.int .i64 h.last, .int .i64 h.size, .int .i64 h.cool, .int .i64 h.die, .int .i64 h.burn, .int .i64 h.start.1, .int .i64 h.start.2, .slice ow h.wet.length cw, tv, xv'] 28 (0, 0)) := (hb.block w.heap.size (by simp)).trans (heap_new0 _ _)
  have hs1 : w.heap.size < W1.heap.size := (Array.getElem?_eq_some_iff.1 hA1).1
  have hcr := (cells_of_block hA1).1
  have HA1 := Lib.hid hA1
  clear hA1 hb
  go_wp2_with fail
  clear hcr
  go_loopw [3, 4] (fun u v wr => ∃ k : Nat, k ≤ h.wet.length ∧ u = iv (manyTo h k) ∧ v = .int .i64 k ∧ Below W1.heap.size W1 wr) (fun _ v _ => h.wet.length - (intOf v).toNat)
  case atStart => exact ⟨0, Nat.zero_le _, rfl, rfl, Below.refl _ _⟩
  case round =>
    obtain ⟨k, hk, rfl, rfl, hB⟩ := hrel
    obtain ⟨hm0, hm1⟩ := manyTo_bd HR.out k
    have hAr := (hB.block w.heap.size hs1).trans HA1.out
    have hsr := (cells_of_block hAr).2.2
    have hcr := (cells_of_block hAr).1
    have HAr := Lib.hid hAr
    clear hAr
    have hHW := (HW.out.below HB1.out (Nat.le_refl _)).below hB (Nat.le_refl _)
    have HB := Lib.hid hB
    clear hB
    by_cases hlt : k < h.wet.length
    · obtain ⟨b, off, rfl, hb1, d1, d2⟩ := PairsAt.cell hHW hlt
      have hltI : (k : Int) < h.wet.length := by omega
      have hr := HR.out.wet _ (List.getElem_mem hlt)
      have hsucc := manyTo_succ h k hlt
      clear hHW
      generalize h.wet[k] = r at *
      obtain ⟨hr1, hr2, hr3⟩ := hr
      have HS := Lib.hid hsucc
      clear hsucc
      have hsz : 1 ≤ sizeR r ∧ sizeR r ≤ 21 := by unfold sizeR; omega
      generalize manyTo h k = m at *
      have hmul0 : 0 ≤ m * sizeR r := Int.mul_nonneg (by omega) (by omega)
      have hmul1 : m * sizeR r ≤ 3000 * 21 := Int.mul_le_mul hm1 hsz.2 (by omega) (by omega)
      have hmul2 : m * sizeR r ≤ 63000 := by omega
      clear hsz hmul1
      go_wp2_with fail
      refine (Size_any r _ hr1 hr2 (by omega)).mono ?_
      rintro e W2 ⟨rfl, hb2⟩
      have HB2 := Lib.hid hb2
      clear hb2
      go_wp2_with fail
      go_roundw
      case rel =>
        refine ⟨k + 1, by omega, ?_, by go_num, bgo HB.out HB2.out⟩
        rw [HS.out]
        unfold manyStep
        first | rfl | (simp; omega)
      case measure => simp [intOf]; omega
    · have hkl : k = h.wet.length := by omega
      obtain rfl : q = manyTo h k := by rw [← HQ.out, hkl]; rfl
      clear hHW
      go_wp2_with fail
      go_returns
      exact ⟨by simp, bgo HB1.out HB.out⟩

/-! ### Fault -/
/-- What is asked of a heap first. -/
def headOk (h : HeapD) : Bool :=
  decide (0 ≤ h.last) && (inB h.size 0 20 && (inB h.cool 0 100 && (inB h.die 0 500 && (inB h.burn h.die 500 && (okR h.start 500 && (decide ((h.wet.length : Int) = h.last + 1) && isTurns h.last h.turns))))))

theorem valid_head (h : HeapD) : valid h = (headOk h && h.wet.all (okR · 20) && h.readings.all (okRdg h.last)) := by
  rw [Bool.eq_iff_iff]
  simp only [valid, headOk, numbersOk, inB, okR, Bool.and_eq_true, decide_eq_true_eq, and_assoc]
  constructor
  · rintro ⟨a1, a2, a3, a4, a5, a6, a7, a8, a9, a10, a11, a12, a13, a14, a15⟩
    exact ⟨a1, a2, a3, a4, a5, a6, by omega, a7, a8, a9, a10, a11, a12, a13, a14, a15⟩
  · rintro ⟨a1, a2, a3, a4, a5, a6, b, a7, a8, a9, a10, a11, a12, a13, a14, a15⟩
    exact ⟨a1, a2, a3, a4, a5, a6, a7, a8, a9, a10, a11, a12, a13, a14, a15⟩

theorem fault_bad {h : HeapD} (hl : h.last ≤ 9) (hr : h.readings.length ≤ 5) (hv : valid h = false) : fault h = 1 := by
  unfold fault
  rw [if_neg (by omega), if_pos hv]
theorem fault_good {h : HeapD} (hl : h.last ≤ 9) (hr : h.readings.length ≤ 5) (hv : valid h = true) : fault h = if 2000 < prod (h.start :: h.wet) then 3 else 0 := by
  unfold fault
  rw [if_neg (by omega), if_neg (by rw [hv]; simp)]

theorem Fault_limit (h : HeapD) (wv tv xv' : Value) (w : World) (hx : TriplesAt w xv' h.readings) (hl : 9 < h.last ∨ 5 < h.readings.length) :
    Calls Try.prog 64 #[hv h wv tv xv'] w (PV (iv 3) w) := by
  obtain ⟨ox, cx, rfl⟩ := hx.open
  have hlen := hx.len
  clear hx
  by_cases h9 : 9 < h.last
  · clear hl
    go_enter Try.func64, Try.ntmps64
    go_wp2
    go_returns
    exact ⟨by simp, (by repeat (first | exact Below.refl _ _ | assumption | refine bgo ?_ (by assumption) | refine bgoAlloc ?_ _ | refine bgoDrew ?_ | refine bgoSet ?_ (by simp; omega) _))⟩
  · have h5 : (5 : Int) < h.readings.length := by omega
    clear hl
    go_enter Try.func64, Try.ntmps64
    go_wp2
    go_returns
    exact ⟨by simp, (by repeat (first | exact Below.refl _ _ | assumption | refine bgo ?_ (by assumption) | refine bgoAlloc ?_ _ | refine bgoDrew ?_ | refine bgoSet ?_ (by simp; omega) _))⟩

theorem Fault_head (h : HeapD) (wv tv xv' : Value) (w : World) (hw : PairsAt w wv h.wet) (ht : IntsAt w tv h.turns) (hx : TriplesAt w xv' h.readings) (hl : h.last ≤ 9) (hr : (h.readings.length : Int) ≤ 5) (hq : headOk h = false) :
    Calls Try.prog 64 #[hv h wv tv xv'] w (PV (iv 1) w) := by
  have hlen := hw.len
  obtain ⟨ow, cw, rfl⟩ := hw.open
  obtain ⟨ot, ct, rfl⟩ := ht.open
  obtain ⟨ox, cx, rfl⟩ := hx.open
  have HW := Lib.hid hw
  have HT := Lib.hid ht
  have HX := Lib.hid hx
  clear hw ht hx
  have HQ := Lib.hid hq
  clear hq
  go_enter Try.func64, Try.ntmps64
  go_wp2_with (first | (go_at_call 43; refine (In_any _ _ _ _).mono ?_; rintro e w' ⟨rfl, hb⟩; obtain ⟨hc, hf⟩ := bcell hb; have hz0 : w.heap.size < w'.heap.size := (by have := hb.size; (try simp only [World.size_alloc] at this); omega)) | (go_at_call 104; refine (Within_any _ _ _).mono ?_; rintro e w' ⟨rfl, hb⟩; obtain ⟨hc, hf⟩ := bcell hb; have hz0 : w.heap.size < w'.heap.size := (by have := hb.size; (try simp only [World.size_alloc] at this); omega)) | (go_at_call 25; refine (IsTurns_any h _ _ _ h.turns _ _ (SlAt.below HT.out (by repeat (first | exact Below.refl _ _ | assumption | refine bgo ?_ (by assumption) | refine bgoAlloc ?_ _ | refine bgoDrew ?_ | refine bgoSet ?_ (by simp; omega) _)) (Nat.le_refl _))).mono ?_; rintro e w' ⟨rfl, hb⟩; obtain ⟨hc, hf⟩ := bcell hb; have hz0 : w.heap.size < w'.heap.size := (by have := hb.size; (try simp only [World.size_alloc] at this); omega)))
  all_goals first
    | (go_returns; exact ⟨by simp, (by repeat (first | exact Below.refl _ _ | assumption | refine bgo ?_ (by assumption) | refine bgoAlloc ?_ _ | refine bgoDrew ?_ | refine bgoSet ?_ (by simp; omega) _))⟩)
    | (exfalso; have hx := (‹0 ≤ h.last ∧ (!isTurns h.last h.turns) = false›).2; have hh := HQ.out; simp [headOk, *] at hh; simp [hh] at hx)

theorem head_parts {h : HeapD} (hq : headOk h = true) : 0 ≤ h.last ∧ inB h.size 0 20 = true ∧ inB h.cool 0 100 = true ∧ inB h.die 0 500 = true ∧ inB h.burn h.die 500 = true ∧ okR h.start 500 = true ∧ (h.wet.length : Int) = h.last + 1 ∧ isTurns h.last h.turns = true := by
  simpa only [headOk, Bool.and_eq_true, decide_eq_true_eq] using hq

theorem fault_wet {h : HeapD} (hl : h.last ≤ 9) (hr : h.readings.length ≤ 5) {k : Nat} (hk : k < h.wet.length) (h1 : okR (h.wet.getD k (0, 0)) 20 = false) : fault h = 1 := by
  refine fault_bad hl hr ?_
  rw [valid_head]
  have : h.wet.all (okR · 20) = false := by
    rw [List.all_eq_false]
    refine ⟨h.wet[k], List.getElem_mem _, ?_⟩
    rw [show h.wet.getD k (0, 0) = h.wet[k] from by simp [List.getD, hk]] at h1
    simp [h1]
  simp [this]
theorem fault_rdg {h : HeapD} (hl : h.last ≤ 9) (hr : h.readings.length ≤ 5) {k : Nat} (hk : k < h.readings.length) (h1 : okRdg h.last (h.readings.getD k (0, 0, 0)) = false) : fault h = 1 := by
  refine fault_bad hl hr ?_
  rw [valid_head]
  have : h.readings.all (okRdg h.last) = false := by
    rw [List.all_eq_false]
    refine ⟨h.readings[k], List.getElem_mem _, ?_⟩
    rw [show h.readings.getD k (0, 0, 0) = h.readings[k] from by simp [List.getD, hk]] at h1
    simp [h1]
  simp [this]
theorem all_of_at {α : Type} {l : List α} {p : α → Bool} {d : α} (h : ∀ j, j < l.length → p (l.getD j d) = true) : l.all p = true := by
  rw [List.all_eq_true]
  intro x hx
  obtain ⟨k, hk, rfl⟩ := List.getElem_of_mem hx
  have := h k hk
  rwa [show l.getD k d = l[k] from by simp [List.getD, hk]] at this


end Go.Proofs.Ytoibfafmnaooaaa
