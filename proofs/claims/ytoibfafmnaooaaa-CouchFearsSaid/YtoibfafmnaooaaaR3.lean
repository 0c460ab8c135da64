/-
  Contracts of the reference: Fault, whole; of the law: Thin, ready.
-/
import Derived.WalkKit
import Derived.WalkLawsBesides
import Derived.WalkSpells
import Derived.Outline
import Derived.Handy
import Derived.KernelRfl
import Derived.Lib.Hide
import Derived.Test.YtoibfafmnaooaaaR2
namespace Go.Proofs.Ytoibfafmnaooaaa
open Go.RowKit Go.RG Go.SL Go.Shelf Cou
set_option maxHeartbeats 400000
set_option maxRecDepth 10000

set_option maxHeartbeats 4000000 in
theorem Fault_body (h : HeapD) (wv tv xv' : Value) (w : World) (hw : PairsAt w wv h.wet) (ht : IntsAt w tv h.turns) (hx : TriplesAt w xv' h.readings) (hl : h.last ≤ 9) (hr : (h.readings.length : Int) ≤ 5) (hq : headOk h = true) :
    Calls Try.prog 64 #[hv h wv tv xv'] w (PV (iv (fault h)) w) := by
  have hlen := hw.len
  have hxl := hx.len
  obtain ⟨ow, cw, rfl⟩ := hw.open
  obtain ⟨ot, ct, rfl⟩ := ht.open
  obtain ⟨ox, cx, rfl⟩ := hx.open
  have HW := Lib.hid hw
  have HT := Lib.hid ht
  have HX := Lib.hid hx
  clear hw ht hx
  have HQ := Lib.hid hq
  obtain ⟨q1, q2, q3, q4, q5, q6, q7, q8⟩ := head_parts hq
  have q9 : ((h.wet.length : Int) != h.last + 1) = false := by simp [q7]
  obtain ⟨q, hqf⟩ : ∃ q, fault h = q := ⟨_, rfl⟩
  rw [hqf]
  have HF := Lib.hid hqf
  clear hqf hq q7
  go_enter Try.func64, Try.ntmps64
  go_wp2_with (first | (go_at_call 43; refine (In_any _ _ _ _).mono ?_; rintro e w' ⟨rfl, hb⟩; obtain ⟨hc, hf⟩ := bcell hb; have hz0 : w.heap.size < w'.heap.size := (by have := hb.size; (try simp only [World.size_alloc] at this); omega)) | (go_at_call 104; refine (Within_any _ _ _).mono ?_; rintro e w' ⟨rfl, hb⟩; obtain ⟨hc, hf⟩ := bcell hb; have hz0 : w.heap.size < w'.heap.size := (by have := hb.size; (try simp only [World.size_alloc] at this); omega)) | (go_at_call 25; refine (IsTurns_any h _ _ _ h.turns _ _ (SlAt.below HT.out (by repeat (first | exact Below.refl _ _ | assumption | refine bgo ?_ (by assumption) | refine bgoAlloc ?_ _ | refine bgoDrew ?_ | refine bgoSet ?_ (by simp; omega) _)) (Nat.le_refl _))).mono ?_; rintro e w' ⟨rfl, hb⟩; obtain ⟨hc, hf⟩ := bcell hb; have hz0 : w.heap.size < w'.heap.size := (by have := hb.size; (try simp only [World.size_alloc] at this); omega)))
  refine gworld fun W1 hW1 => ?_
  have HB1 := Lib.hid (show Below w.heap.size w W1 from by rw [hW1]; exact (by repeat (first | exact Below.refl _ _ | assumption | refine bgo ?_ (by assumption) | refine bgoAlloc ?_ _ | refine bgoDrew ?_ | refine bgoSet ?_ (by simp; omega) _)))
  have hA1 : W1.heap[w.heap.size]? = some (.cells #[.int .i64 h.last, .int .i64 h.size, .int .i64 h.cool, .int .i64 h.die, .int .i64 h.burn, .int .i64 h.start.1, .int .i64 h.start.2, .slice ow h.wet.length cw, .slice ot h.turns.length ct, .slice ox h.readings.length cx] 28 (0, 0)) := by
    rw [hW1]
    exact (Below.block (show Below (w.alloc (.cells #[.int .i64 h.last, .int .i64 h.size, .int .i64 h.cool, .int .i64 h.die, .int .i64 h.burn, .int .i64 h.start.1, .int .i64 h.start.2, .slice ow h.wet.length cw, .slice ot h.turns.length ct, .slice ox h.readings.length cx] 28)).heap.size (w.alloc (.cells #[.int .i64 h.last, .int .i64 h.size, .int .i64 h.cool, .int .i64 h.die, .int .i64 h.burn, .int .i64 h.start.1, .int .i64 h.start.2, .slice ow h.wet.length cw, .slice ot h.turns.length ct, .slice ox h.readings.length cx] 28)) _ from (by repeat (first | exact Below.refl _ _ | assumption | refine bgo ?_ (by assumption) | refine bgoAlloc ?_ _ | refine bgoDrew ?_ | refine bgoSet ?_ (by simp; omega) _))) w.heap.size (by simp)).trans (heap_new0 _ _)
  have hs1 : w.heap.size < W1.heap.size := (Array.getElem?_eq_some_iff.1 hA1).1
  have HA1 := Lib.hid hA1
  clear hA1 hW1 hc hf hb hz0 q2 q3 q4 q5 q6 q8 q9
  go_loopw [3] (fun u wr => ∃ k : Nat, k ≤ h.wet.length ∧ u = .int .i64 k ∧ Below W1.heap.size W1 wr ∧ ∀ j, j < k → okR (h.wet.getD j (0, 0)) 20 = true) (fun u _ => h.wet.length - (intOf u).toNat)
  case atStart => exact ⟨0, Nat.zero_le _, rfl, Below.refl _ _, fun j hj => by omega⟩
  case round =>
    obtain ⟨k, hk, rfl, hB, hno⟩ := hrel
    have HN := Lib.hid hno
    clear hno
    have hAr := (hB.block w.heap.size hs1).trans HA1.out
    have hsr := (cells_of_block hAr).2.2
    have hcr := (cells_of_block hAr).1
    have HAr := Lib.hid hAr
    clear hAr
    have hHW := (HW.out.below HB1.out (Nat.le_refl _)).below hB (Nat.le_refl _)
    have HB := Lib.hid hB
    clear hB
    by_cases hlt : k < h.wet.length
    · obtain ⟨b, off, rfl, hb1, d1, d2⟩ := PairsAt.cell hHW hlt
      have hltI : (k : Int) < h.wet.length := by omega
      have g1 : h.wet.getD k (0, 0) = h.wet[k] := by simp [List.getD, hlt]
      clear hHW
      generalize h.wet[k] = r at *
      have HG := Lib.hid g1
      clear g1
      cases hr2 : okR r 20
      · obtain rfl : q = 1 := by rw [← HF.out]; exact fault_wet hl (by omega) hlt (by rw [HG.out]; exact hr2)
        go_wp2_with fail
        refine (Within_any r 20 _).mono ?_
        rw [hr2]
        rintro e W2 ⟨rfl, hb2⟩
        have HB2 := Lib.hid hb2
        clear hb2
        go_wp2_with fail
        go_returns
        exact ⟨by simp, bgo HB1.out (bgo HB.out HB2.out)⟩
      · go_wp2_with fail
        refine (Within_any r 20 _).mono ?_
        rw [hr2]
        rintro e W2 ⟨rfl, hb2⟩
        have HB2 := Lib.hid hb2
        clear hb2
        go_wp2_with fail
        go_roundw
        case rel =>
          refine ⟨k + 1, by omega, by go_num, bgo HB.out HB2.out, fun j hj => ?_⟩
          by_cases e : j = k
          · subst e; rw [HG.out]; exact hr2
          · exact HN.out j (by omega)
        case measure => simp [intOf]; omega
    · have hkl : k = h.wet.length := by omega
      have HWO := Lib.hid (show h.wet.all (okR · 20) = true from all_of_at (d := (0, 0)) fun j hj => HN.out j (by omega))
      clear hHW hkl
      go_wp2_with fail
      clear hcr HAr HN
      go_loopw [4] (fun u wq => ∃ k : Nat, k ≤ h.readings.length ∧ u = .int .i64 k ∧ Below W1.heap.size W1 wq ∧ ∀ j, j < k → okRdg h.last (h.readings.getD j (0, 0, 0)) = true) (fun u _ => h.readings.length - (intOf u).toNat)
      case atStart => exact ⟨0, Nat.zero_le _, rfl, HB.out, fun j hj => by omega⟩
      case round =>
        clear hlt hsr HB
        obtain ⟨i, hi, rfl, hB, hno⟩ := hrel
        have HN := Lib.hid hno
        clear hno
        have hAr := (hB.block w.heap.size hs1).trans HA1.out
        have hsr := (cells_of_block hAr).2.2
        have hcr := (cells_of_block hAr).1
        have HAr := Lib.hid hAr
        clear hAr
        have hHX := (HX.out.below HB1.out (Nat.le_refl _)).below hB (Nat.le_refl _)
        have HB := Lib.hid hB
        clear hB
        by_cases hlt : i < h.readings.length
        · obtain ⟨b, off, rfl, hb1, d1, d2, d3⟩ := TriplesAt.cell hHX hlt
          have hltI : (i : Int) < h.readings.length := by omega
          have g1 : h.readings.getD i (0, 0, 0) = h.readings[i] := by simp [List.getD, hlt]
          clear hHX
          generalize h.readings[i] = x at *
          have HG := Lib.hid g1
          clear g1
          cases hr2 : okRdg h.last x
          · obtain rfl : q = 1 := by rw [← HF.out]; exact fault_rdg hl (by omega) hlt (by rw [HG.out]; exact hr2)
            have HR2 := Lib.hid hr2
            clear hr2
            go_wp2_with (go_at_call 43; refine (In_any _ _ _ _).mono ?_; rintro e w' ⟨rfl, hb⟩; obtain ⟨hc, hf⟩ := bcell hb; have hz0 : w.heap.size < w'.heap.size := (by have := hb.size; (try simp only [World.size_alloc] at this); omega); have hz1 : wr.heap.size < w'.heap.size := (by have := hb.size; (try simp only [World.size_alloc] at this); omega))
            all_goals first
              | (go_returns; exact ⟨by simp, bgo HB1.out (bgo HB.out (by repeat (first | exact Below.refl _ _ | assumption | refine bgo ?_ (by assumption) | refine bgoAlloc ?_ _ | refine bgoDrew ?_ | refine bgoSet ?_ (by simp; omega) _)))⟩)
              | (exfalso; have hh := HR2.out; simp [okRdg, *] at hh; done)
              | (exfalso; have hh := HR2.out; simp [okRdg, *] at hh; simp_all; done)
              | (trace "left"; go_ways)
          · have HR2 := Lib.hid hr2
            obtain ⟨⟨r1, r2⟩, r3⟩ : (inB x.1 0 h.last = true ∧ inB x.2.1 0 1000 = true) ∧ inB x.2.2 0 50 = true := by simpa only [okRdg, Bool.and_eq_true] using hr2
            clear hr2
            go_wp2_with (go_at_call 43; refine (In_any _ _ _ _).mono ?_; rintro e w' ⟨rfl, hb⟩; obtain ⟨hc, hf⟩ := bcell hb; have hz0 : w.heap.size < w'.heap.size := (by have := hb.size; (try simp only [World.size_alloc] at this); omega); have hz1 : wr.heap.size < w'.heap.size := (by have := hb.size; (try simp only [World.size_alloc] at this); omega))
            go_roundw
            case rel =>
              refine ⟨i + 1, by omega, by go_num, bgo HB.out (by repeat (first | exact Below.refl _ _ | assumption | refine bgo ?_ (by assumption) | refine bgoAlloc ?_ _ | refine bgoDrew ?_ | refine bgoSet ?_ (by simp; omega) _)), fun j hj => ?_⟩
              by_cases e : j = i
              · subst e; rw [HG.out]; exact HR2.out
              · exact HN.out j (by omega)
            case measure => simp [intOf]; omega
        · have hkl : i = h.readings.length := by omega
          have hval : valid h = true := by
            rw [valid_head, HQ.out, HWO.out, all_of_at (d := (0, 0, 0)) (p := okRdg h.last) (l := h.readings) fun j hj => HN.out j (by omega)]
            rfl
          have hR : RangesOk h := by
            obtain ⟨_, _, _, _, _, p6, _, _⟩ := head_parts HQ.out
            simp only [okR, Bool.and_eq_true, decide_eq_true_eq] at p6
            refine ⟨⟨p6.1.1, p6.1.2, p6.2⟩, fun r hr => ?_⟩
            have := List.all_eq_true.1 HWO.out r hr
            simp only [okR, Bool.and_eq_true, decide_eq_true_eq] at this
            exact ⟨this.1.1, this.1.2, this.2⟩
          have hfl := fault_good hl (by omega) hval
          rw [HF.out] at hfl
          have HFL := Lib.hid hfl
          have HM := Lib.hid (manyL_gt hR)
          have HR := Lib.hid hR
          clear hfl hval hR hkl hHX
          go_wp2_with fail
          refine (Many_any h _ _ _ _ ((HW.out.below HB1.out (Nat.le_refl _)).below HB.out (Nat.le_refl _)) HR.out).mono ?_
          rintro e W2 ⟨rfl, hb2⟩
          have HB2 := Lib.hid hb2
          clear hb2
          by_cases hm : 2000 < manyL h
          · obtain rfl : q = 3 := by rw [HFL.out, if_pos (HM.out.1 hm)]
            go_wp2_with fail
            go_returns
            exact ⟨by simp, bgo HB1.out (bgo HB.out HB2.out)⟩
          · obtain rfl : q = 0 := by rw [HFL.out, if_neg (fun h => hm (HM.out.2 h))]
            go_wp2_with fail
            go_returns
            exact ⟨by simp, bgo HB1.out (bgo HB.out HB2.out)⟩

/-- **The error of a heap.** -/
theorem Fault_any (h : HeapD) (wv tv xv' : Value) (w : World) (hw : PairsAt w wv h.wet) (ht : IntsAt w tv h.turns) (hx : TriplesAt w xv' h.readings) :
    Calls Try.prog 64 #[hv h wv tv xv'] w (PV (iv (fault h)) w) := by
  by_cases hl : 9 < h.last ∨ 5 < h.readings.length
  · rw [show fault h = 3 from by unfold fault; rw [if_pos hl]]
    exact Fault_limit h wv tv xv' w hx (by omega)
  · cases hq : headOk h
    · rw [fault_bad (by omega) (by omega) (by rw [valid_head, hq]; rfl)]
      exact Fault_head h wv tv xv' w hw ht hx (by omega) (by omega) hq
    · exact Fault_body h wv tv xv' w hw ht hx (by omega) (by omega) hq

/-! ### Thin, ready -/
def thinB (h : HeapD) : Bool := decide (h.wet.length ≤ 12) && (decide (h.turns.length ≤ 12) && (decide (h.readings.length ≤ 7) && (decide (fault h ≠ 0) || decide (manyL h ≤ 100))))
def readyB (h : HeapD) : Bool := thinB h && decide (fault h = 0)

theorem Thin_any (h : HeapD) (wv tv xv' : Value) (w : World) (hw : PairsAt w wv h.wet) (ht : IntsAt w tv h.turns) (hx : TriplesAt w xv' h.readings) :
    Calls Try.prog 18 #[hv h wv tv xv'] w (PV (.bool (thinB h)) w) := by
  have hl1 := hw.len
  have hl2 := ht.len
  have hl3 := hx.len
  obtain ⟨ow, cw, rfl⟩ := hw.open
  obtain ⟨ot, ct, rfl⟩ := ht.open
  obtain ⟨ox, cx, rfl⟩ := hx.open
  have HW := Lib.hid hw
  have HT := Lib.hid ht
  have HX := Lib.hid hx
  clear hw ht hx
  obtain ⟨q, hq⟩ : ∃ q, thinB h = q := ⟨_, rfl⟩
  rw [hq]
  have HQ := Lib.hid hq
  clear hq
  by_cases h1 : (h.wet.length : Int) ≤ 12
  case neg =>
    obtain rfl : q = false := by rw [← HQ.out]; simp [thinB]; omega
    go_enter Try.func18, Try.ntmps18
    go_wp2
    go_returns
    exact ⟨by simp, (by repeat (first | exact Below.refl _ _ | assumption | refine bgo ?_ (by assumption) | refine bgoAlloc ?_ _ | refine bgoDrew ?_ | refine bgoSet ?_ (by simp; omega) _))⟩
  by_cases h2 : (h.turns.length : Int) ≤ 12
  case neg =>
    obtain rfl : q = false := by rw [← HQ.out]; simp [thinB]; omega
    go_enter Try.func18, Try.ntmps18
    go_wp2
    go_returns
    exact ⟨by simp, (by repeat (first | exact Below.refl _ _ | assumption | refine bgo ?_ (by assumption) | refine bgoAlloc ?_ _ | refine bgoDrew ?_ | refine bgoSet ?_ (by simp; omega) _))⟩
  by_cases h3 : (h.readings.length : Int) ≤ 7
  case neg =>
    obtain rfl : q = false := by rw [← HQ.out]; simp [thinB]; omega
    go_enter Try.func18, Try.ntmps18
    go_wp2
    go_returns
    exact ⟨by simp, (by repeat (first | exact Below.refl _ _ | assumption | refine bgo ?_ (by assumption) | refine bgoAlloc ?_ _ | refine bgoDrew ?_ | refine bgoSet ?_ (by simp; omega) _))⟩
  by_cases h4 : fault h = 0
  case neg =>
    obtain rfl : q = true := by rw [← HQ.out]; simp [thinB, h4]; omega
    obtain ⟨f, hf⟩ : ∃ f, fault h = f := ⟨_, rfl⟩
    have h5 : (f != 0) = true := by rw [← hf]; simpa using h4
    have HFF := Lib.hid hf
    clear hf h4
    go_enter Try.func18, Try.ntmps18
    go_wp2_with fail
    refine (Fault_any h _ _ _ _ (HW.out.alloc _) (HT.out.alloc _) (HX.out.alloc _)).mono ?_
    rw [HFF.out]
    rintro e W1 ⟨rfl, hb⟩
    have HB := Lib.hid hb
    clear hb
    go_wp2_with fail
    go_returns
    exact ⟨by simp, bgo (bgoAlloc (Below.refl _ _) _) HB.out⟩
  have HR := Lib.hid (sound_of h4).ranges
  obtain ⟨m, hm⟩ : ∃ m, manyL h = m := ⟨_, rfl⟩
  obtain rfl : q = decide (m ≤ 100) := by
    rw [← HQ.out, ← hm]
    simp only [thinB]
    rw [decide_eq_true (show h.wet.length ≤ 12 by omega), decide_eq_true (show h.turns.length ≤ 12 by omega), decide_eq_true (show h.readings.length ≤ 7 by omega)]
    simp [h4]
  have HM := Lib.hid hm
  have H4 := Lib.hid h4
  clear hm h4
  go_enter Try.func18, Try.ntmps18
  go_wp2_with fail
  refine (Fault_any h _ _ _ _ (HW.out.alloc _) (HT.out.alloc _) (HX.out.alloc _)).mono ?_
  rw [H4.out]
  rintro e W1 ⟨rfl, hb⟩
  obtain ⟨hc, hf⟩ := bcell hb
  have hz0 : w.heap.size < W1.heap.size := by have := hb.size; simp only [World.size_alloc] at this; omega
  have HB := Lib.hid hb
  clear hb
  go_wp2_with fail
  refine (Many_any h _ _ _ _ ((HW.out.alloc _).below HB.out (Nat.le_refl _)) HR.out).mono ?_
  rw [HM.out]
  rintro e W2 ⟨rfl, hb⟩
  have HB2 := Lib.hid hb
  clear hb
  go_wp2_with fail
  go_returns
  exact ⟨by simp, bgo (bgo (bgoAlloc (Below.refl _ _) _) HB.out) HB2.out⟩

theorem ready_any (h : HeapD) (wv tv xv' : Value) (w : World) (hw : PairsAt w wv h.wet) (ht : IntsAt w tv h.turns) (hx : TriplesAt w xv' h.readings) :
    Calls Try.prog 33 #[hv h wv tv xv'] w (PV (.bool (readyB h)) w) := by
  obtain ⟨ow, cw, rfl⟩ := hw.open
  obtain ⟨ot, ct, rfl⟩ := ht.open
  obtain ⟨ox, cx, rfl⟩ := hx.open
  have HW := Lib.hid hw
  have HT := Lib.hid ht
  have HX := Lib.hid hx
  clear hw ht hx
  cases h1 : thinB h
  · rw [show readyB h = false from by simp [readyB, h1]]
    have H1 := Lib.hid h1
    clear h1
    go_enter Try.func33, Try.ntmps33
    go_wp2_with fail
    refine (Thin_any h _ _ _ _ (HW.out.alloc _) (HT.out.alloc _) (HX.out.alloc _)).mono ?_
    rw [H1.out]
    rintro e W1 ⟨rfl, hb⟩
    have HB := Lib.hid hb
    clear hb
    go_wp2_with fail
    go_returns
    exact ⟨by simp, bgo (bgoAlloc (Below.refl _ _) _) HB.out⟩
  · obtain ⟨f, hf⟩ : ∃ f, fault h = f := ⟨_, rfl⟩
    rw [show readyB h = (f == 0) from by simp [readyB, h1, hf]; rfl]
    have H1 := Lib.hid h1
    have HF := Lib.hid hf
    clear h1 hf
    go_enter Try.func33, Try.ntmps33
    go_wp2_with fail
    refine (Thin_any h _ _ _ _ (HW.out.alloc _) (HT.out.alloc _) (HX.out.alloc _)).mono ?_
    rw [H1.out]
    rintro e W1 ⟨rfl, hb⟩
    obtain ⟨hc, hf⟩ := bcell hb
    have hz0 : w.heap.size < W1.heap.size := by have := hb.size; simp only [World.size_alloc] at this; omega
    have HB := Lib.hid hb
    clear hb
    go_wp2_with fail
    refine (Fault_any h _ _ _ _ ((HW.out.alloc _).below HB.out (Nat.le_refl _)) ((HT.out.alloc _).below HB.out (Nat.le_refl _)) ((HX.out.alloc _).below HB.out (Nat.le_refl _))).mono ?_
    rw [HF.out]
    rintro e W2 ⟨rfl, hb⟩
    have HB2 := Lib.hid hb
    clear hb
    go_wp2_with fail
    go_returns
    exact ⟨by simp, bgo (bgo (bgoAlloc (Below.refl _ _) _) HB.out) HB2.out⟩

/-- A heap that a statement can use. -/
theorem ready_sound {h : HeapD} (hr : readyB h = true) : Sound h ∧ fault h = 0 ∧ manyL h ≤ 100 ∧ h.turns.length ≤ 12 := by
  simp only [readyB, thinB, Bool.and_eq_true, decide_eq_true_eq, Bool.or_eq_true] at hr
  obtain ⟨⟨_, h2, _, h3⟩, h4⟩ := hr
  exact ⟨sound_of h4, h4, h3.resolve_left (fun h => h h4), h2⟩

end Go.Proofs.Ytoibfafmnaooaaa
