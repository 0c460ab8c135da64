/-
  Contracts of the reference: Full, Bits, Before, Shorter; of the law: some, inside, narrower.
-/
import Derived.WalkKit
import Derived.WalkLawsBesides
import Derived.WalkSpells
import Derived.Outline
import Derived.Handy
import Derived.KernelRfl
import Derived.Lib.Hide
import Derived.Laws.BitsLemmas
import Derived.Test.YtoibfafmnaooaaaR1
import Derived.Test.YtoibfafmnaooaaaM10
namespace Go.Proofs.Ytoibfafmnaooaaa
open Go.RowKit Go.RG Go.SL Go.Shelf Cou
set_option maxHeartbeats 400000
set_option maxRecDepth 10000

theorem pow_bd {k P : Nat} (h : k ≤ P) : (1 : Int) ≤ 2 ^ k ∧ (2 : Int) ^ k ≤ 2 ^ P := by
  have h1 : 2 ^ k ≤ 2 ^ P := Nat.pow_le_pow_right (by omega) h
  have h2 : 1 ≤ 2 ^ k := Nat.one_le_two_pow
  exact ⟨by exact_mod_cast h2, by exact_mod_cast h1⟩

theorem Full_any (h : HeapD) (wv tv xv' : Value) (w : World) (hx : TriplesAt w xv' h.readings) (hr : h.readings.length ≤ 5) :
    Calls Try.prog 47 #[hv h wv tv xv'] w (PV (iv (2 ^ h.readings.length - 1)) w) := by
  obtain ⟨ox, cx, rfl⟩ := hx.open
  have HX := Lib.hid hx
  clear hx
  obtain ⟨hp1, hp2⟩ := pow_bd hr
  generalize hn : h.readings.length = n at *
  have HN := Lib.hid hn
  clear hn
  go_enter Try.func47, Try.ntmps47
  go_wp2_with fail
  go_returns
  exact ⟨by simp, (by repeat (first | exact Below.refl _ _ | assumption | refine bgo ?_ (by assumption) | refine bgoAlloc ?_ _ | refine bgoDrew ?_ | refine bgoSet ?_ (by simp; omega) _))⟩

/-- It returns a list that reads so; nothing that was there has turned. -/
def PInts (l : List Int) (w : World) (e : Ending) (w' : World) : Prop := ∃ v, e = .returned v ∧ IntsAt w' v l ∧ Below w.heap.size w w'

theorem bit_at (n p : Nat) : (((n / 2 ^ p : Nat) : Int) % 2 == 1) = n.testBit p := by
  rw [Nat.testBit_eq_decide_div_mod_eq, Bool.eq_iff_iff, beq_iff_eq, decide_eq_true_eq]
  generalize n / 2 ^ p = d
  omega

theorem intCells_app (l : List Int) (x : Int) : intCells (l ++ [x]) = intCells l ++ intCells [x] := by simp [intCells]

set_option maxHeartbeats 1000000 in
theorem Bits_any (n P : Nat) (w : World) (hn : n < 2 ^ P) (hP : P ≤ 16) : Calls Try.prog 49 #[iv n] w (PInts (bitsL n) w) := by
  have hnI : (n : Int) ≤ 65536 := by
    have : 2 ^ P ≤ 2 ^ 16 := Nat.pow_le_pow_right (by omega) hP
    omega
  have HN := Lib.hid hn
  clear hn
  go_enter Try.func49, Try.ntmps49
  go_wp2_with fail
  go_loopw [3, 4] (fun o u wr => ∃ p : Nat, p ≤ P ∧ u = .int .i64 p ∧ ∃ oo oc, o = .slice oo (bitsTo n p).length oc ∧ wr.ownsRow w.heap.size 3 1 (.slice oo (bitsTo n p).length oc) (bitsTo n p).length (intCells (bitsTo n p)) ∧ Below w.heap.size w wr) (fun _ u _ => P - (intOf u).toNat)
  case atStart => exact ⟨0, Nat.zero_le _, rfl, none, 0, rfl, ⟨rfl, .inl ⟨rfl, rfl⟩⟩, Below.refl _ _⟩
  case round =>
    obtain ⟨p, hp, rfl, oo, oc, rfl, hown, hB⟩ := hrel
    have hlen := bitsTo_len n p
    have hdI : (n : Int) / 2 ^ p = ((n / 2 ^ p : Nat) : Int) := by norm_cast
    have hbit := bit_at n p
    have hdle : n / 2 ^ p ≤ n := Nat.div_le_self _ _
    have hz : n / 2 ^ p = 0 → n < 2 ^ p := fun h => by
      rcases Nat.lt_or_ge n (2 ^ p) with h1 | h1
      · exact h1
      · have := Nat.div_pos h1 (Nat.two_pow_pos p); omega
    have hge : P ≤ p → n / 2 ^ p = 0 := fun h => Nat.div_eq_of_lt (Nat.lt_of_lt_of_le HN.out (Nat.pow_le_pow_right (by omega) h))
    generalize n / 2 ^ p = d at *
    have hd1 : (d : Int) ≤ 65536 := by omega
    have HZ := Lib.hid hz
    have HOW := Lib.hid hown
    have HB := Lib.hid hB
    by_cases hd0 : 0 < d
    · have hpP : p < P := by
        rcases Nat.lt_or_ge p P with h1 | h1
        · exact h1
        · have := hge h1; omega
      have hd0I : (0 : Int) < d := by omega
      clear hge hz hown hB
      cases hb : n.testBit p
      · rw [hb] at hbit
        have hno := bitsTo_no hb
        have HNO := Lib.hid hno
        clear hno hb
        go_wp2_with fail
        go_roundw
        case rel =>
          refine ⟨p + 1, by omega, by go_num, oo, oc, ?_⟩
          rw [HNO.out]
          exact ⟨rfl, HOW.out, HB.out⟩
        case measure => simp [intOf]; omega
      · rw [hb] at hbit
        have hyes := bitsTo_yes hb
        have HYES := Lib.hid hyes
        clear hyes hb
        have hz := HB.out.size
        go_wp2_with (at_builtin; go_loud (refine wpList_append_at rfl _ _ tInts rfl w.heap.size (.slice oo (bitsTo n p).length oc) (bitsTo n p).length (intCells (bitsTo n p)) rfl (owns_ext (Ms := []) HOW.out (Ext.of_below ((Below.refl _ _).alloc (Nat.le_refl _) _)) (by simp)) (.slice (some ⟨wr.heap.size, 0, none⟩) 1 1) 1 (intCells [(p : Int)]) rfl (SlAt.of_block 1 1 (heap_new0 _ _) rfl (by decide)) (one_ints _) (by omega) (by omega) (by simp; omega) ?_))
        intro v' W6 hown6 hgr6 _
        obtain ⟨o6, c6, rfl⟩ := owns_slice hown6
        have hpu := ap_push0 HB.out HOW.out (Ext.of_below ((Below.refl _ _).alloc (Nat.le_refl _) _)) hown6 hgr6 (Nat.le_refl _) hz
        have HP := Lib.hid hpu
        have HO6 := Lib.hid hown6
        clear hpu hown6 hgr6
        go_wp2_with fail
        go_roundw
        case rel =>
          have e : (bitsTo n (p + 1)).length = (bitsTo n p).length + 1 := by rw [HYES.out]; simp
          refine ⟨p + 1, by omega, by go_num, o6, c6, by rw [e], ?_, HP.out.1⟩
          rw [e, HYES.out, intCells_app]
          exact HO6.out
        case measure => simp [intOf]; omega
    · obtain rfl : d = 0 := by omega
      clear hge hz hown hB
      go_wp2_with fail
      go_returns
      refine ⟨.slice oo (bitsTo n p).length oc, by simp, ?_, HB.out⟩
      rw [bitsL_eq (HZ.out (by trivial))]
      exact SlAt.of_owns HOW.out

/-! ### Before, Shorter -/
theorem before_drop : ∀ (k : Nat) (a b : List Int), k ≤ a.length → k ≤ b.length → (∀ j, j < k → a.getD j 0 = b.getD j 0) → before a b = before (a.drop k) (b.drop k) := by
  intro k
  induction k with
  | zero => intro a b _ _ _; simp
  | succ k ih =>
    intro a b ha hb h
    cases a with
    | nil => simp at ha
    | cons x a =>
      cases b with
      | nil => simp at hb
      | cons y b =>
        have h0 := h 0 (by omega)
        simp only [List.getD_cons_zero] at h0
        subst h0
        simp only [before, if_true, List.drop_succ_cons]
        exact ih a b (by simpa using ha) (by simpa using hb) (fun j hj => by simpa using h (j + 1) (by omega))
theorem before_ne {k : Nat} {a b : List Int} (ha : k < a.length) (hb : k < b.length) (h : ∀ j, j < k → a.getD j 0 = b.getD j 0) (hne : a[k] ≠ b[k]) : before a b = decide (a[k] < b[k]) := by
  rw [before_drop k a b (by omega) (by omega) h, List.drop_eq_getElem_cons ha, List.drop_eq_getElem_cons hb]
  simp only [before]
  rw [if_neg hne]
theorem before_end {k : Nat} {a b : List Int} (ha : k ≤ a.length) (hb : k ≤ b.length) (h : ∀ j, j < k → a.getD j 0 = b.getD j 0) (hk : k = a.length ∨ k = b.length) : before a b = decide (a.length < b.length) := by
  rw [before_drop k a b ha hb h]
  by_cases e : k = a.length
  · subst e
    rw [List.drop_length]
    simp only [before]
    rw [Bool.eq_iff_iff]
    simp
  · have e2 : k = b.length := by omega
    subst e2
    rw [List.drop_length, List.drop_eq_getElem_cons (by omega)]
    simp only [before]
    rw [eq_comm, decide_eq_false_iff_not]
    omega

set_option maxHeartbeats 1000000 in
theorem Before_any (a b : List Int) (v u : Value) (w : World) (hv : IntsAt w v a) (hu : IntsAt w u b) : Calls Try.prog 88 #[v, u] w (PV (.bool (before a b)) w) := by
  obtain ⟨o, c, rfl⟩ := hv.open
  obtain ⟨o2, c2, rfl⟩ := hu.open
  have hl1 := hv.len
  have hl2 := hu.len
  obtain ⟨q, hq⟩ : ∃ q, before a b = q := ⟨_, rfl⟩
  rw [hq]
  have HQ := Lib.hid hq
  have HV := Lib.hid hv
  have HU := Lib.hid hu
  clear hv hu hq
  go_enter Try.func88, Try.ntmps88
  go_wp2_with fail
  go_loopw [5] (fun u wr => ∃ k : Nat, k ≤ a.length ∧ k ≤ b.length ∧ u = .int .i64 k ∧ Below w.heap.size w wr ∧ ∀ j, j < k → a.getD j 0 = b.getD j 0) (fun u _ => a.length - (intOf u).toNat)
  case atStart => exact ⟨0, Nat.zero_le _, Nat.zero_le _, rfl, Below.refl _ _, fun j hj => by omega⟩
  case round =>
    obtain ⟨k, hk, hk2, rfl, hB, hno⟩ := hrel
    have HN := Lib.hid hno
    clear hno
    by_cases hlt : k < a.length
    · have hltI : (k : Int) < a.length := by omega
      by_cases hlm : k < b.length
      · have hlmI : (k : Int) < b.length := by omega
        obtain ⟨b1, off, rfl, hb1, d1⟩ := IntsAt.cell (HV.out.below hB (Nat.le_refl _)) hlt
        obtain ⟨b2, off', rfl, hb2, d2⟩ := IntsAt.cell (HU.out.below hB (Nat.le_refl _)) hlm
        have g1 : a.getD k 0 = a[k] := by simp [List.getD, hlt]
        have g2 : b.getD k 0 = b[k] := by simp [List.getD, hlm]
        have HNE := Lib.hid (before_ne hlt hlm HN.out)
        generalize a[k] = x at *
        generalize b[k] = y at *
        have HG := Lib.hid (And.intro g1 g2)
        have HB := Lib.hid hB
        clear g1 g2 hB
        by_cases hxy : x = y
        · have hxyb : (x != y) = false := by simpa using hxy
          go_wp2_with fail
          refine wp_region_rg 9 [] none [] (by kernel_rfl) (by kernel_rfl) ?_
          simp only [List.take_succ_cons, List.take_zero, List.drop_succ_cons, List.drop_zero]
          repeat (refine tree_det (by rfl) _ (by rfl) (fun W hW => by go_simp; (try simp (disch := omega) only [IntWalk.i64_in]); try rfl) ?_; simp only [Act.put, List.setIfInBounds_toArray, List.set_cons_succ, List.set_cons_zero])
          intro W hE hF
          obtain ⟨hc, hf⟩ := bcell hE.below
          have hzE := hE.size
          (try simp only [World.size_alloc] at hzE)
          have HE := Lib.hid hE
          clear hE hF
          go_wp2_with fail
          go_roundw
          case rel =>
            refine ⟨k + 1, by omega, by omega, by go_num, bgo HB.out HE.out.below, fun j hj => ?_⟩
            by_cases e : j = k
            · subst e; rw [HG.out.1, HG.out.2]; exact hxy
            · exact HN.out j (by omega)
          case measure => simp [intOf]; omega
        · have hxyb : (x != y) = true := by simpa using hxy
          obtain rfl : q = decide (x < y) := by rw [← HQ.out]; exact HNE.out hxy
          clear hxy
          go_wp2_with fail
          refine wp_region_rg 9 [] none [] (by kernel_rfl) (by kernel_rfl) ?_
          simp only [List.take_succ_cons, List.take_zero, List.drop_succ_cons, List.drop_zero]
          repeat (refine tree_det (by rfl) _ (by rfl) (fun W hW => by go_simp; (try simp (disch := omega) only [IntWalk.i64_in]); try rfl) ?_; simp only [Act.put, List.setIfInBounds_toArray, List.set_cons_succ, List.set_cons_zero])
          intro W hE hF
          obtain ⟨hc, hf⟩ := bcell hE.below
          have hzE := hE.size
          (try simp only [World.size_alloc] at hzE)
          have HE := Lib.hid hE
          have d1' := (hc b1 (off + k) hb1).trans d1
          have d2' := (hc b2 (off' + k) hb2).trans d2
          have hb1' : b1 < W.heap.size := by omega
          have hb2' : b2 < W.heap.size := by omega
          clear hE hF hc hf
          go_wp2_with fail
          refine wp_region_rg 9 [] none [] (by kernel_rfl) (by kernel_rfl) ?_
          simp only [List.take_succ_cons, List.take_zero, List.drop_succ_cons, List.drop_zero]
          repeat (refine tree_det (by rfl) _ (by rfl) (fun W hW => by go_simp; (try simp (disch := omega) only [IntWalk.i64_in]); try rfl) ?_; simp only [Act.put, List.setIfInBounds_toArray, List.set_cons_succ, List.set_cons_zero])
          intro W2 hE2 hF2
          have HE2 := Lib.hid (show Ext [] W W2 from hE2)
          clear hE2 hF2
          go_wp2_with fail
          go_returns
          exact ⟨by simp, bgo HB.out (bgo HE.out.below HE2.out.below)⟩
      · have hlmI : ¬ (k : Int) < b.length := by omega
        obtain rfl : q = decide ((a.length : Int) < b.length) := by rw [← HQ.out, before_end hk hk2 HN.out (by omega)]; simp
        have HB := Lib.hid hB
        clear hB
        go_wp2_with fail
        go_returns
        exact ⟨by simp, HB.out⟩
    · have hltI : ¬ (k : Int) < a.length := by omega
      obtain rfl : q = decide ((a.length : Int) < b.length) := by rw [← HQ.out, before_end hk hk2 HN.out (by omega)]; simp
      have HB := Lib.hid hB
      clear hB
      go_wp2_with fail
      go_returns
      exact ⟨by simp, HB.out⟩

theorem Shorter_any (a b : List Int) (v u : Value) (w : World) (hv : IntsAt w v a) (hu : IntsAt w u b) : Calls Try.prog 48 #[v, u] w (PV (.bool (shorter a b)) w) := by
  obtain ⟨o, c, rfl⟩ := hv.open
  obtain ⟨o2, c2, rfl⟩ := hu.open
  have hl1 := hv.len
  have hl2 := hu.len
  have HC := Lib.hid (Before_any a b _ _ w hv hu)
  obtain ⟨q, hq⟩ : ∃ q, shorter a b = q := ⟨_, rfl⟩
  rw [hq]
  have HQ := Lib.hid hq
  clear hv hu hq
  by_cases h1 : (a.length : Int) < b.length
  · obtain rfl : q = true := by rw [← HQ.out]; simp [shorter]; omega
    go_enter Try.func48, Try.ntmps48
    go_wp2_with fail
    go_returns
    exact ⟨by simp, Below.refl _ _⟩
  · by_cases h2 : (a.length : Int) = b.length
    · obtain rfl : q = before a b := by
        rw [← HQ.out]
        have e : a.length = b.length := by omega
        simp [shorter, e]
      have h2b : ((a.length : Int) == b.length) = true := by simpa using h2
      clear h2
      go_enter Try.func48, Try.ntmps48
      go_wp2_with fail
      refine HC.out.mono ?_
      rintro e W1 ⟨rfl, hb⟩
      have HB := Lib.hid hb
      clear hb HC
      go_wp2_with fail
      go_returns
      exact ⟨by simp, HB.out⟩
    · obtain rfl : q = false := by rw [← HQ.out]; simp [shorter]; omega
      have h2b : ((a.length : Int) == b.length) = false := by simpa using h2
      clear h2
      go_enter Try.func48, Try.ntmps48
      go_wp2_with fail
      go_returns
      exact ⟨by simp, Below.refl _ _⟩

end Go.Proofs.Ytoibfafmnaooaaa
