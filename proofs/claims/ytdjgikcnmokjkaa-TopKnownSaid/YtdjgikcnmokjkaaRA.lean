/-
  Contracts of the reference of package weed, first part: In, Within, Did, Right, IsAllowed, IsTruth.
-/
import Derived.WalkKit
import Derived.WalkLawsBesides
import Derived.WalkSpells
import Derived.Outline
import Derived.Handy
import Derived.KernelRfl
import Derived.Lib.Hide
import Derived.Deep.Cut
import Derived.Test.YtdjgikcnmokjkaaQH
namespace Go.Proofs.Ytdjgikcnmokjkaa
open Go.RowKit Go.RG Go.SL Go.Shelf Cou Go.TB
set_option maxHeartbeats 400000
set_option maxRecDepth 10000

theorem rIn_any (n l h : Int) (w : World) : Calls Try.prog 35 #[iv n, iv l, iv h] w (PV (.bool (inB n l h)) w) := by
  by_cases h1 : l ≤ n
  all_goals
    go_enter Try.func35, Try.ntmps35
    go_wp2
    go_returns
    exact ⟨by simp [inB]; omega, Below.refl _ _⟩

theorem rWithin_any (r : Rng) (hi : Int) (w : World) : Calls Try.prog 34 #[rv r, iv 0, iv hi] w (PV (.bool (okR r hi)) w) := by
  go_enter Try.func34, Try.ntmps34
  go_wp2
  all_goals
    go_returns
    exact ⟨by simp [okR]; omega, by go_grown⟩

theorem rDid_at (l : List Int) (lv : Value) (hl : l.length ≤ 1000) (who : Int) (a n : Nat) (b : Int) (hb : b + 1 = (a : Int) + n) (hn : a + n ≤ l.length) (w : World) (h : IntsAt w lv l) :
    Calls Try.prog 104 #[lv, iv who, iv a, iv b] w (PV (iv (didL l who a n)) w) := by
  obtain ⟨o, c, rfl⟩ := h.open
  have HL := Lib.hid h
  clear h
  obtain ⟨r, hr⟩ : ∃ r, didL l who a n = r := ⟨_, rfl⟩
  rw [hr]
  have HR := Lib.hid hr
  clear hr
  go_enter Try.func104, Try.ntmps104
  go_wp2_with fail
  go_loop [9, 10] (fun m i => ∃ k : Nat, k ≤ n ∧ i = .int .i64 ((a : Int) + k) ∧ m = .int .i64 (didL l who a k)) (fun _ i => a + n - (intOf i).toNat)
  case atStart => exact ⟨0, Nat.zero_le _, by simp, by simp [didL]⟩
  case round =>
    obtain ⟨k, hk, rfl, rfl⟩ := hrel
    have hbd := didL_bd l who a k
    have hsu := didL_succ l who a k
    by_cases hlt : k < n
    · obtain ⟨g, off, rfl, hg, d1⟩ := IntsAt.cell HL.out (show a + k < l.length by omega)
      have hgd : l.getD (a + k) 0 = l[a + k]'(by omega) := by simp [List.getD, show a + k < l.length by omega]
      rw [hgd] at hsu
      have HSU := Lib.hid hsu
      clear hgd hsu
      generalize l[a + k]'(by omega) = y at *
      generalize didL l who a k = d at *
      have hltI : (a : Int) + k < l.length := by omega
      have hleb : (a : Int) + k ≤ b := by omega
      have hgb : d1 = d1 := rfl
      by_cases hy : y = who
      · subst hy
        go_wp2_with fail
        go_round
        case rel => exact ⟨k + 1, by omega, by go_num, by rw [HSU.out, if_pos rfl]⟩
        case measure => simp [intOf]; omega
      · have hyb : (y == who) = false := by simpa using hy
        have HY := Lib.hid hy
        clear hy
        go_wp2_with fail
        go_round
        case rel => exact ⟨k + 1, by omega, by go_num, by rw [HSU.out, if_neg HY.out]; simp⟩
        case measure => simp [intOf]; omega
    · have hkn : k = n := by omega
      subst hkn
      obtain rfl : r = didL l who a k := HR.out.symm
      clear hsu
      generalize didL l who a k = d at *
      have hleb : ¬ (a : Int) + k ≤ b := by omega
      go_wp2_with fail
      go_returns
      exact ⟨by simp, (by repeat (first | exact Below.refl _ _ | assumption | refine bgo ?_ (by assumption) | refine bgoAlloc ?_ _ | refine bgoDrew ?_ | refine bgoSet ?_ (by simp; omega) _))⟩

theorem rDid_any (l : List Int) (lv : Value) (hl : l.length ≤ 1000) (who a b : Int) (h0 : 0 ≤ a) (h1 : a ≤ b + 1) (h2 : b < l.length) (w : World) (h : IntsAt w lv l) :
    Calls Try.prog 104 #[lv, iv who, iv a, iv b] w (PV (iv (didT l who a b)) w) := by
  have := rDid_at l lv hl who a.toNat (b + 1 - a).toNat b (by omega) (by omega) w h
  rw [show ((a.toNat : Nat) : Int) = a from by omega] at this
  exact this

/-- Whether a tally is right. -/
theorem rRight_any (l : List Int) (lv : Value) (hl : l.length ≤ 1000) (t : Tly) (h0 : 0 ≤ t.2.1) (h1 : t.2.1 ≤ t.2.2.1) (h2 : t.2.2.1 < l.length) (w : World) (h : IntsAt w lv l) :
    Calls Try.prog 77 #[lv, tlyv t] w (PV (.bool (tallyR l t)) w) := by
  have HD := Lib.hid (fun W (hb : Below w.heap.size w W) => rDid_any l lv hl t.1 t.2.1 t.2.2.1 h0 (by omega) h2 W (SlAt.below h hb (Nat.le_refl _)))
  obtain ⟨d, hd⟩ : ∃ d, didT l t.1 t.2.1 t.2.2.1 = d := ⟨_, rfl⟩
  obtain ⟨q, hq⟩ : ∃ q, tallyR l t = q := ⟨_, rfl⟩
  have hQ : inB d t.2.2.2.1 t.2.2.2.2 = q := by rw [← hq, ← hd]; rfl
  rw [hd] at HD
  rw [hq]
  have HQ := Lib.hid hQ
  obtain ⟨o, c, rfl⟩ := h.open
  clear hd hq hQ h
  go_enter Try.func77, Try.ntmps77
  go_upto_region 1 with (fail)
  refine wp_region_rg 15 [] none [(7, Spec.val (iv d)), (14, Spec.val (.bool q))] (by kernel_rfl) (by kernel_rfl) ?_
  simp only [List.take_succ_cons, List.take_zero, List.drop_succ_cons, List.drop_zero]
  repeat (first | (refine tree_det (by rfl) _ (by rfl) (fun W hW => by go_simp; (try simp (disch := omega) only [IntWalk.i64_in]); try rfl) ?_; simp only [Act.put, List.setIfInBounds_toArray, List.set_cons_succ, List.set_cons_zero]) | (refine tree_skip (by rfl) (by rfl) ?_; simp only [Act.put, List.setIfInBounds_toArray, List.set_cons_succ, List.set_cons_zero]))
  refine tree_val _ (by rfl) (by rfl) 104 _ (fun W hW => by go_simp; try rfl) (fun W hE hF => by exact HD.out W (bgo (bgoAlloc (Below.refl _ _) _) (Ext.below hE))) ?_
  simp only [Act.put, List.setIfInBounds_toArray, List.set_cons_succ, List.set_cons_zero]
  repeat (first | (refine tree_det (by rfl) _ (by rfl) (fun W hW => by go_simp; (try simp (disch := omega) only [IntWalk.i64_in]); try rfl) ?_; simp only [Act.put, List.setIfInBounds_toArray, List.set_cons_succ, List.set_cons_zero]) | (refine tree_skip (by rfl) (by rfl) ?_; simp only [Act.put, List.setIfInBounds_toArray, List.set_cons_succ, List.set_cons_zero]))
  refine tree_val _ (by rfl) (by rfl) 35 _ (fun W hW => by go_simp; try rfl) (fun W hE hF => by exact (by have := rIn_any d t.2.2.2.1 t.2.2.2.2 W; rw [HQ.out] at this; exact this)) ?_
  simp only [Act.put, List.setIfInBounds_toArray, List.set_cons_succ, List.set_cons_zero]
  repeat (first | (refine tree_det (by rfl) _ (by rfl) (fun W hW => by go_simp; (try simp (disch := omega) only [IntWalk.i64_in]); try rfl) ?_; simp only [Act.put, List.setIfInBounds_toArray, List.set_cons_succ, List.set_cons_zero]) | (refine tree_skip (by rfl) (by rfl) ?_; simp only [Act.put, List.setIfInBounds_toArray, List.set_cons_succ, List.set_cons_zero]))
  intro W hE hF
  obtain ⟨hc, hf⟩ := bcell hE.below
  have hzE := hE.size
  (try simp only [World.size_alloc] at hzE)
  go_wp2_with fail
  go_returns
  exact ⟨by simp, (by repeat (first | exact Below.refl _ _ | assumption | refine bgo ?_ hE.below | refine bgo ?_ (by assumption) | refine bgoAlloc ?_ _ | refine bgoDrew ?_ | refine bgoSet ?_ (by simp; try omega) _))⟩

end Go.Proofs.Ytdjgikcnmokjkaa
