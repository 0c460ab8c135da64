/-
  Contracts of the reference's small functions: In, Within, Size, Has, IsTurns.
-/
import Derived.WalkKit
import Derived.WalkLawsBesides
import Derived.WalkSpells
import Derived.Outline
import Derived.Handy
import Derived.KernelRfl
import Derived.Lib.Hide
import Derived.Test.YtoibfafmnaooaaaR0
namespace Go.Proofs.Ytoibfafmnaooaaa
open Go.RowKit Go.RG Go.SL Go.Shelf Cou
set_option maxHeartbeats 400000
set_option maxRecDepth 10000

theorem In_any (n l h : Int) (w : World) : Calls Try.prog 43 #[iv n, iv l, iv h] w (PV (.bool (inB n l h)) w) := by
  by_cases h1 : l ≤ n
  all_goals
    go_enter Try.func43, Try.ntmps43
    go_wp2
    go_returns
    exact ⟨by simp [inB]; omega, Below.refl _ _⟩

theorem Within_any (r : Rng) (hi : Int) (w : World) : Calls Try.prog 104 #[rv r, iv 0, iv hi] w (PV (.bool (okR r hi)) w) := by
  go_enter Try.func104, Try.ntmps104
  go_wp2
  all_goals
    go_returns
    exact ⟨by simp [okR]; omega, by go_grown⟩

theorem Size_any (r : Rng) (w : World) (h1 : 0 ≤ r.1) (h2 : r.1 ≤ r.2) (h3 : r.2 ≤ 100000) :
    Calls Try.prog 77 #[rv r] w (PV (iv (sizeR r)) w) := by
  go_enter Try.func77, Try.ntmps77
  go_wp2
  go_returns
  exact ⟨by simp [sizeR], by go_grown⟩

theorem Has_any (l : List Int) (v : Value) (n : Int) (w : World) (hv : IntsAt w v l) : Calls Try.prog 76 #[v, iv n] w (PV (.bool (l.contains n)) w) := by
  obtain ⟨o, c, rfl⟩ := hv.open
  have hlen := hv.len
  have HV := Lib.hid hv
  clear hv
  obtain ⟨q, hq⟩ : ∃ q, l.contains n = q := ⟨_, rfl⟩
  rw [hq]
  have HQ := Lib.hid hq
  clear hq
  go_enter Try.func76, Try.ntmps76
  go_wp2_with fail
  go_loopw [5] (fun u wr => ∃ k : Nat, k ≤ l.length ∧ u = .int .i64 k ∧ Below w.heap.size w wr ∧ ∀ j, j < k → l.getD j 0 ≠ n) (fun u _ => l.length - (intOf u).toNat)
  case atStart => exact ⟨0, Nat.zero_le _, rfl, Below.refl _ _, fun j hj => by omega⟩
  case round =>
    obtain ⟨k, hk, rfl, hB, hno⟩ := hrel
    have HN := Lib.hid hno
    clear hno
    by_cases hlt : k < l.length
    · obtain ⟨b, off, rfl, hb1, d1⟩ := IntsAt.cell (HV.out.below hB (Nat.le_refl _)) hlt
      have hltI : (k : Int) < l.length := by omega
      have g1 : l.getD k 0 = l[k] := by simp [List.getD, hlt]
      generalize l[k] = x at *
      have HG := Lib.hid g1
      have HB := Lib.hid hB
      clear g1 hB
      by_cases hx : x = n
      · have hxb : (x == n) = true := by simpa using hx
        obtain rfl : q = true := by rw [← HQ.out]; exact contains_at hlt (HG.out.trans hx)
        go_wp2_with fail
        go_returns
        exact ⟨by simp, HB.out⟩
      · have hxb : (x == n) = false := by simpa using hx
        go_wp2_with fail
        go_roundw
        case rel =>
          refine ⟨k + 1, by omega, by go_num, HB.out, fun j hj => ?_⟩
          by_cases e : j = k
          · subst e; rw [HG.out]; exact hx
          · exact HN.out j (by omega)
        case measure => simp [intOf]; omega
    · have hkl : k = l.length := by omega
      obtain rfl : q = false := by rw [← HQ.out]; exact contains_not (fun j hj => HN.out j (by omega))
      have HB := Lib.hid hB
      clear hB
      go_wp2_with fail
      go_returns
      exact ⟨by simp, HB.out⟩

theorem askT_of {last : Int} {l : List Int} {k : Nat} (hlt : k < l.length) (hno : ∀ j, j < k → askT last (-1) l j = true) :
    askT last (-1) l k = (inB (l.getD k 0) 0 last && (k == 0 || !decide (l.getD k 0 ≤ l.getD (k - 1) 0))) := by
  cases k with
  | zero => simp [askT]
  | succ m =>
    have h1 := hno m (by omega)
    have h0 : 0 ≤ last := by
      have := hno 0 (by omega)
      simp [askT, inB] at this
      omega
    have h2 := askT_prev last h0 l m (fun j hj => hno j (by omega)) (by omega)
    simp only [askT, inB, Bool.and_eq_true, decide_eq_true_eq] at h1
    simp only [askT, List.getD_cons_succ, inB, Nat.add_sub_cancel]
    rw [Bool.eq_iff_iff]
    simp only [List.getD_eq_getElem?_getD] at h1 h2 ⊢
    simp
    omega

theorem isTurns_at {last : Int} {l : List Int} {k : Nat} (hlt : k < l.length) (h : askT last (-1) l k = false) : isTurns last l = false := by
  unfold isTurns
  rw [turnsFrom_all, List.all_eq_false]
  exact ⟨k, by simpa using hlt, by simp [h]⟩
theorem isTurns_all {last : Int} {l : List Int} (h : ∀ j, j < l.length → askT last (-1) l j = true) : isTurns last l = true := by
  unfold isTurns
  rw [turnsFrom_all, List.all_eq_true]
  exact fun j hj => h j (by simpa using hj)

set_option maxHeartbeats 1000000 in
theorem IsTurns_any (h : HeapD) (wv tv xv' : Value) (l : List Int) (v : Value) (w : World) (hL : IntsAt w v l) :
    Calls Try.prog 25 #[hv h wv tv xv', v] w (PV (.bool (isTurns h.last l)) w) := by
  obtain ⟨o, c, rfl⟩ := hL.open
  have hlen := hL.len
  have HV := Lib.hid hL
  clear hL
  obtain ⟨q, hq⟩ : ∃ q, isTurns h.last l = q := ⟨_, rfl⟩
  rw [hq]
  have HQ := Lib.hid hq
  clear hq
  go_enter Try.func25, Try.ntmps25
  go_wp2_with fail
  refine gworld fun W1 hW1 => ?_
  have HB1 := Lib.hid (show Below w.heap.size w W1 from by rw [hW1]; exact (by repeat (first | exact Below.refl _ _ | assumption | refine bgo ?_ (by assumption) | refine bgoAlloc ?_ _ | refine bgoDrew ?_ | refine bgoSet ?_ (by simp; omega) _)))
  have hA1 : W1.heap[w.heap.size]? = some (.cells #[.int .i64 h.last, .int .i64 h.size, .int .i64 h.cool, .int .i64 h.die, .int .i64 h.burn, .int .i64 h.start.1, .int .i64 h.start.2, wv, tv, xv'] 28 (0, 0)) := by rw [hW1]; exact heap_new0 _ _
  have hs1 : w.heap.size < W1.heap.size := (Array.getElem?_eq_some_iff.1 hA1).1
  have HA1 := Lib.hid hA1
  clear hA1 hW1
  go_loopw [5] (fun u wr => ∃ k : Nat, k ≤ l.length ∧ u = .int .i64 k ∧ Below W1.heap.size W1 wr ∧ ∀ j, j < k → askT h.last (-1) l j = true) (fun u _ => l.length - (intOf u).toNat)
  case atStart => exact ⟨0, Nat.zero_le _, rfl, Below.refl _ _, fun j hj => by omega⟩
  case round =>
    obtain ⟨k, hk, rfl, hB, hno⟩ := hrel
    have HN := Lib.hid hno
    clear hno
    have hAr := (hB.block w.heap.size hs1).trans HA1.out
    have hsr : w.heap.size < wr.heap.size := (Array.getElem?_eq_some_iff.1 hAr).1
    have hcr : ∀ i, wr.cell? ⟨w.heap.size, i, none⟩ = (#[.int .i64 h.last, .int .i64 h.size, .int .i64 h.cool, .int .i64 h.die, .int .i64 h.burn, .int .i64 h.start.1, .int .i64 h.start.2, wv, tv, xv'] : Array Value)[i]? := fun i => by simp only [World.cell?, hAr]; rfl
    have HAr := Lib.hid hAr
    clear hAr
    have hHV := (HV.out.below HB1.out (Nat.le_refl _)).below hB (Nat.le_refl _)
    have HB := Lib.hid hB
    clear hB
    by_cases hlt : k < l.length
    · obtain ⟨b, off, rfl, hb1, d1⟩ := IntsAt.cell hHV hlt
      have hltI : (k : Int) < l.length := by omega
      have hask := askT_of hlt HN.out
      have g1 : l.getD k 0 = l[k] := by simp [List.getD, hlt]
      rw [g1] at hask
      cases hq0 : inB l[k] 0 h.last
      · rw [hq0, Bool.false_and] at hask
        obtain rfl : q = false := by rw [← HQ.out]; exact isTurns_at hlt hask
        generalize l[k] = x at *
        clear hask g1
        go_wp2_with fail
        refine wp_region_rg 24 [] none [(6, Spec.val (.bool false))] (by kernel_rfl) (by kernel_rfl) ?_
        simp only [List.take_succ_cons, List.take_zero, List.drop_succ_cons, List.drop_zero]
        repeat (first | (refine tree_det (by rfl) _ (by rfl) (fun W hW => by go_simp; (try simp (disch := omega) only [IntWalk.i64_in]); try rfl) ?_; simp only [Act.put, List.setIfInBounds_toArray, List.set_cons_succ, List.set_cons_zero]) | (refine tree_skip (by rfl) (by rfl) ?_; simp only [Act.put, List.setIfInBounds_toArray, List.set_cons_succ, List.set_cons_zero]))
        refine tree_val _ (by rfl) (by rfl) 43 _ (fun W hW => by go_simp; try rfl) (fun W hE hF => by exact by have := In_any x 0 h.last W; rw [hq0] at this; exact this) ?_
        simp only [Act.put, List.setIfInBounds_toArray, List.set_cons_succ, List.set_cons_zero]
        repeat (first | (refine tree_det (by rfl) _ (by rfl) (fun W hW => by go_simp; (try simp (disch := omega) only [IntWalk.i64_in]); try rfl) ?_; simp only [Act.put, List.setIfInBounds_toArray, List.set_cons_succ, List.set_cons_zero]) | (refine tree_skip (by rfl) (by rfl) ?_; simp only [Act.put, List.setIfInBounds_toArray, List.set_cons_succ, List.set_cons_zero]))
        intro W hE hF
        obtain ⟨hc, hf⟩ := bcell hE.below
        have hzE := hE.size
        (try simp only [World.size_alloc] at hzE)
        have HE := Lib.hid hE
        clear hE hF
        go_wp2_with fail
        go_returns
        exact ⟨by simp, bgo HB1.out (bgo HB.out HE.out.below)⟩
      · rw [hq0, Bool.true_and] at hask
        cases k with
        | zero =>
          generalize l[0] = x at *
          simp only [Nat.add_zero] at d1
          have HK := Lib.hid hask
          clear hask g1
          go_wp2_with fail
          refine wp_region_rg 24 [] none [(6, Spec.val (.bool true))] (by kernel_rfl) (by kernel_rfl) ?_
          simp only [List.take_succ_cons, List.take_zero, List.drop_succ_cons, List.drop_zero]
          repeat (first | (refine tree_det (by rfl) _ (by rfl) (fun W hW => by go_simp; (try simp (disch := omega) only [IntWalk.i64_in]); try rfl) ?_; simp only [Act.put, List.setIfInBounds_toArray, List.set_cons_succ, List.set_cons_zero]) | (refine tree_skip (by rfl) (by rfl) ?_; simp only [Act.put, List.setIfInBounds_toArray, List.set_cons_succ, List.set_cons_zero]))
          refine tree_val _ (by rfl) (by rfl) 43 _ (fun W hW => by go_simp; try rfl) (fun W hE hF => by exact by have := In_any x 0 h.last W; rw [hq0] at this; exact this) ?_
          simp only [Act.put, List.setIfInBounds_toArray, List.set_cons_succ, List.set_cons_zero]
          repeat (first | (refine tree_det (by rfl) _ (by rfl) (fun W hW => by go_simp; (try simp (disch := omega) only [IntWalk.i64_in]); try rfl) ?_; simp only [Act.put, List.setIfInBounds_toArray, List.set_cons_succ, List.set_cons_zero]) | (refine tree_skip (by rfl) (by rfl) ?_; simp only [Act.put, List.setIfInBounds_toArray, List.set_cons_succ, List.set_cons_zero]))
          intro W hE hF
          obtain ⟨hc, hf⟩ := bcell hE.below
          have hzE := hE.size
          (try simp only [World.size_alloc] at hzE)
          have HE := Lib.hid hE
          clear hE hF
          go_wp2_with fail
          go_roundw
          case rel =>
            refine ⟨1, by omega, by go_num, bgo HB.out HE.out.below, fun j hj => ?_⟩
            obtain rfl : j = 0 := by omega
            rw [HK.out]; rfl
          case measure => simp [intOf]; omega
        | succ m =>
          have hm : m < l.length := by omega
          have d2 := (IntsAt.cell hHV hm)
          obtain ⟨b2, off2, he, _, d2⟩ := d2
          cases he
          have g2 : l.getD m 0 = l[m] := by simp [List.getD, hm]
          rw [Nat.add_sub_cancel, g2] at hask
          have hmI : (m : Int) < l.length := by omega
          have hsub : ((m + 1 : Nat) : Int) - 1 = (m : Int) := by omega
          generalize l[m + 1] = x at *
          generalize l[m] = y at *
          clear g1 g2
          replace hask : askT h.last (-1) l (m + 1) = !decide (x ≤ y) := by rw [hask]; simp
          have HK := Lib.hid hask
          clear hask
          cases hd : decide (x ≤ y)
          · go_wp2_with fail
            refine wp_region_rg 24 [] none [(6, Spec.val (.bool true))] (by kernel_rfl) (by kernel_rfl) ?_
            simp only [List.take_succ_cons, List.take_zero, List.drop_succ_cons, List.drop_zero]
            repeat (first | (refine tree_det (by rfl) _ (by rfl) (fun W hW => by go_simp; (try simp (disch := omega) only [IntWalk.i64_in]); try rfl) ?_; simp only [Act.put, List.setIfInBounds_toArray, List.set_cons_succ, List.set_cons_zero]) | (refine tree_skip (by rfl) (by rfl) ?_; simp only [Act.put, List.setIfInBounds_toArray, List.set_cons_succ, List.set_cons_zero]))
            refine tree_val _ (by rfl) (by rfl) 43 _ (fun W hW => by go_simp; try rfl) (fun W hE hF => by exact by have := In_any x 0 h.last W; rw [hq0] at this; exact this) ?_
            simp only [Act.put, List.setIfInBounds_toArray, List.set_cons_succ, List.set_cons_zero]
            repeat (first | (refine tree_det (by rfl) _ (by rfl) (fun W hW => by go_simp; (try simp (disch := omega) only [IntWalk.i64_in]); try rfl) ?_; simp only [Act.put, List.setIfInBounds_toArray, List.set_cons_succ, List.set_cons_zero]) | (refine tree_skip (by rfl) (by rfl) ?_; simp only [Act.put, List.setIfInBounds_toArray, List.set_cons_succ, List.set_cons_zero]))
            intro W hE hF
            obtain ⟨hc, hf⟩ := bcell hE.below
            have hzE := hE.size
            (try simp only [World.size_alloc] at hzE)
            have HE := Lib.hid hE
            clear hE hF
            go_wp2_with fail
            go_roundw
            case rel =>
              refine ⟨m + 2, by omega, by go_num, bgo HB.out HE.out.below, fun j hj => ?_⟩
              by_cases e : j = m + 1
              · subst e; rw [HK.out, hd]; rfl
              · exact HN.out j (by omega)
            case measure => simp [intOf]; omega
          · obtain rfl : q = false := by rw [← HQ.out]; exact isTurns_at hlt (by rw [HK.out, hd]; rfl)
            go_wp2_with fail
            refine wp_region_rg 24 [] none [(6, Spec.val (.bool true))] (by kernel_rfl) (by kernel_rfl) ?_
            simp only [List.take_succ_cons, List.take_zero, List.drop_succ_cons, List.drop_zero]
            repeat (first | (refine tree_det (by rfl) _ (by rfl) (fun W hW => by go_simp; (try simp (disch := omega) only [IntWalk.i64_in]); try rfl) ?_; simp only [Act.put, List.setIfInBounds_toArray, List.set_cons_succ, List.set_cons_zero]) | (refine tree_skip (by rfl) (by rfl) ?_; simp only [Act.put, List.setIfInBounds_toArray, List.set_cons_succ, List.set_cons_zero]))
            refine tree_val _ (by rfl) (by rfl) 43 _ (fun W hW => by go_simp; try rfl) (fun W hE hF => by exact by have := In_any x 0 h.last W; rw [hq0] at this; exact this) ?_
            simp only [Act.put, List.setIfInBounds_toArray, List.set_cons_succ, List.set_cons_zero]
            repeat (first | (refine tree_det (by rfl) _ (by rfl) (fun W hW => by go_simp; (try simp (disch := omega) only [IntWalk.i64_in]); try rfl) ?_; simp only [Act.put, List.setIfInBounds_toArray, List.set_cons_succ, List.set_cons_zero]) | (refine tree_skip (by rfl) (by rfl) ?_; simp only [Act.put, List.setIfInBounds_toArray, List.set_cons_succ, List.set_cons_zero]))
            intro W hE hF
            obtain ⟨hc, hf⟩ := bcell hE.below
            have hzE := hE.size
            (try simp only [World.size_alloc] at hzE)
            have HE := Lib.hid hE
            clear hE hF
            go_wp2_with fail
            go_returns
            exact ⟨by simp, bgo HB1.out (bgo HB.out HE.out.below)⟩
    · have hkl : k = l.length := by omega
      obtain rfl : q = true := by rw [← HQ.out]; exact isTurns_all (fun j hj => HN.out j (by omega))
      go_wp2_with fail
      go_returns
      exact ⟨by simp, bgo HB1.out HB.out⟩

end Go.Proofs.Ytoibfafmnaooaaa
