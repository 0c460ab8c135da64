/-
  Contracts of the reference of package weed, fourth part: Bits, Nth, Truths.
-/
import Derived.WalkKit
import Derived.WalkLawsBesides
import Derived.WalkSpells
import Derived.Outline
import Derived.Handy
import Derived.KernelRfl
import Derived.Lib.Hide
import Derived.Deep.Cut
import Derived.Laws.BitsLemmas
import Derived.Test.YtdjgikcnmokjkaaRC
namespace Go.Proofs.Ytdjgikcnmokjkaa
open Go.RowKit Go.RG Go.SL Go.Shelf Cou Go.TB
set_option maxHeartbeats 400000
set_option maxRecDepth 10000

set_option maxHeartbeats 1000000 in
theorem rBits_any (n P : Nat) (w : World) (hn : n < 2 ^ P) (hP : P ≤ 16) : Calls Try.prog 15 #[iv n] w (PInts (bitsL n) w) := by
  have hnI : (n : Int) ≤ 65536 := by
    have : 2 ^ P ≤ 2 ^ 16 := Nat.pow_le_pow_right (by omega) hP
    omega
  have HN := Lib.hid hn
  clear hn
  go_enter Try.func15, Try.ntmps15
  go_wp2_with fail
  go_loopw [3, 4] (fun o u wr => ∃ p : Nat, p ≤ P ∧ u = .int .i64 p ∧ ∃ oo oc, o = .slice oo (bitsTo n p).length oc ∧ wr.ownsRow w.heap.size 3 1 (.slice oo (bitsTo n p).length oc) (bitsTo n p).length (intCells (bitsTo n p)) ∧ Below w.heap.size w wr) (fun _ u _ => P - (intOf u).toNat)
  case atStart => exact ⟨0, Nat.zero_le _, rfl, none, 0, rfl, ⟨rfl, .inl ⟨rfl, rfl⟩⟩, Below.refl _ _⟩
  case round =>
    obtain ⟨p, hp, rfl, oo, oc, rfl, hown, hB⟩ := hrel
    have hlen := bitsTo_len n p
    have hdI : (n : Int) / 2 ^ p = ((n / 2 ^ p : Nat) : Int) := by norm_cast
    have hbit := bit_at n p
    have hdle : n / 2 ^ p ≤ n := Nat.div_le_self _ _
    have hz : n / 2 ^ p = 0 → n < 2 ^ p := fun h => by
      rcases Nat.lt_or_ge n (2 ^ p) with h1 | h1
      · exact h1
      · have := Nat.div_pos h1 (Nat.two_pow_pos p); omega
    have hge : P ≤ p → n / 2 ^ p = 0 := fun h => Nat.div_eq_of_lt (Nat.lt_of_lt_of_le HN.out (Nat.pow_le_pow_right (by omega) h))
    generalize n / 2 ^ p = d at *
    have hd1 : (d : Int) ≤ 65536 := by omega
    have HZ := Lib.hid hz
    have HOW := Lib.hid hown
    have HB := Lib.hid hB
    by_cases hd0 : 0 < d
    · have hpP : p < P := by
        rcases Nat.lt_or_ge p P with h1 | h1
        · exact h1
        · have := hge h1; omega
      have hd0I : (0 : Int) < d := by omega
      clear hge hz hown hB
      cases hb : n.testBit p
      · rw [hb] at hbit
        have hno := bitsTo_no hb
        have HNO := Lib.hid hno
        clear hno hb
        go_wp2_with fail
        go_roundw
        case rel =>
          refine ⟨p + 1, by omega, by go_num, oo, oc, ?_⟩
          rw [HNO.out]
          exact ⟨rfl, HOW.out, HB.out⟩
        case measure => simp [intOf]; omega
      · rw [hb] at hbit
        have hyes := bitsTo_yes hb
        have HYES := Lib.hid hyes
        clear hyes hb
        have hz := HB.out.size
        go_wp2_with (at_builtin; go_loud (refine wpList_append_at rfl _ _ tInts rfl w.heap.size (.slice oo (bitsTo n p).length oc) (bitsTo n p).length (intCells (bitsTo n p)) rfl (owns_ext (Ms := []) HOW.out (Ext.of_below ((Below.refl _ _).alloc (Nat.le_refl _) _)) (by simp)) (.slice (some ⟨wr.heap.size, 0, none⟩) 1 1) 1 (intCells [(p : Int)]) rfl (SlAt.of_block 1 1 (heap_new0 _ _) rfl (by decide)) (one_ints _) (by omega) (by omega) (by simp; omega) ?_))
        intro v' W6 hown6 hgr6 _
        obtain ⟨o6, c6, rfl⟩ := owns_slice hown6
        have hpu := ap_push0 HB.out HOW.out (Ext.of_below ((Below.refl _ _).alloc (Nat.le_refl _) _)) hown6 hgr6 (Nat.le_refl _) hz
        have HP := Lib.hid hpu
        have HO6 := Lib.hid hown6
        clear hpu hown6 hgr6
        go_wp2_with fail
        go_roundw
        case rel =>
          have e : (bitsTo n (p + 1)).length = (bitsTo n p).length + 1 := by rw [HYES.out]; simp
          refine ⟨p + 1, by omega, by go_num, o6, c6, by rw [e], ?_, HP.out.1⟩
          rw [e, HYES.out, intCells_app]
          exact HO6.out
        case measure => simp [intOf]; omega
    · obtain rfl : d = 0 := by omega
      clear hge hz hown hB
      go_wp2_with fail
      go_returns
      refine ⟨.slice oo (bitsTo n p).length oc, by simp, ?_, HB.out⟩
      rw [bitsL_eq (HZ.out (by trivial))]
      exact SlAt.of_owns HOW.out


/-- It returns a list of the call's own that reads so. -/
def POwnI (l : List Int) (w : World) (e : Ending) (w' : World) : Prop := ∃ v, e = .returned v ∧ w'.ownsRow w.heap.size 3 1 v l.length (intCells l) ∧ Below w.heap.size w w'

/-- The first numbers of the list with a number, and the rest of the number. -/
def nthTo (f : FieldD) (n : Int) (k : Nat) : List Int := nthW (List.replicate k (-1, f.weeders - 1)) n
def rstTo (f : FieldD) (n : Int) (k : Nat) : Int := restN (List.replicate k (-1, f.weeders - 1)) n
theorem sizeW (f : FieldD) : sizeR (-1, f.weeders - 1) = f.weeders + 1 := by unfold sizeR; simp only; omega
theorem nthTo_succ (f : FieldD) (n : Int) (k : Nat) : nthTo f n (k + 1) = nthTo f n k ++ [rstTo f n k % (f.weeders + 1) - 1] := by
  unfold nthTo rstTo
  rw [List.replicate_succ', nthW_snoc, sizeW]
  simp only
  congr 2
  omega
theorem rstTo_succ (f : FieldD) (n : Int) (k : Nat) : rstTo f n (k + 1) = rstTo f n k / (f.weeders + 1) := by
  unfold rstTo
  rw [List.replicate_succ', restN_snoc, sizeW]
theorem rstTo_bd (f : FieldD) (h : 1 ≤ f.weeders) (n : Int) (hn : 0 ≤ n) (k : Nat) : 0 ≤ rstTo f n k ∧ rstTo f n k ≤ n := by
  refine restN_bd _ n (fun r hr => ?_) hn
  rw [List.eq_of_mem_replicate hr, sizeW]
  omega
theorem nthTo_len (f : FieldD) (n : Int) (k : Nat) : (nthTo f n k).length = k := by unfold nthTo; rw [nthW_len]; simp
theorem nthTo_all (f : FieldD) (n : Int) : nthTo f n f.rows.toNat = nthW (rangesF f) n := rfl

set_option maxHeartbeats 2000000 in
theorem rNth_any (f : FieldD) (hS : SoundF f) (tv : Value) (n : Int) (hn0 : 0 ≤ n) (hn1 : n ≤ 100000) (w : World) :
    Calls Try.prog 36 #[fv f tv, iv n] w (POwnI (nthW (rangesF f) n) w) := by
  have hr0 := hS.rows0
  have hr1 := hS.rows1
  have hw0 := hS.weed0
  have hw1 := hS.weed1
  obtain ⟨R, hR⟩ : ∃ R : Nat, f.rows = R := ⟨f.rows.toNat, by omega⟩
  have hR7 : R ≤ 7 := by omega
  have HN := Lib.hid hn0
  have HQ : Hid (nthW (rangesF f) n = nthTo f n R) := Lib.hid (by rw [← nthTo_all, hR, Int.toNat_natCast])
  obtain ⟨q, hq⟩ : ∃ q, nthW (rangesF f) n = q := ⟨_, rfl⟩
  rw [hq] at HQ ⊢
  have HR := Lib.hid hR
  clear hS hR hq
  go_enter Try.func36, Try.ntmps36
  go_wp2_with fail
  refine gworld fun W0 hW0 => ?_
  have hB0 : Below w.heap.size w W0 := by rw [hW0]; exact (by repeat (first | exact Below.refl _ _ | assumption | refine bgo ?_ (by assumption) | refine bgoAlloc ?_ _ | refine bgoDrew ?_ | refine bgoSet ?_ (by simp; omega) _))
  have hK0 : W0.heap[w.heap.size]? = some (.cells (rfcells f tv) 26 (0, 0)) := by rw [hW0]; exact heap_new0 _ _
  have H0 := Lib.hid (And.intro hB0 hK0)
  clear hW0 hB0 hK0
  go_loopw [1, 5, 6] (fun m o u wr => ∃ k : Nat, k ≤ R ∧ u = .int .i64 k ∧ m = .int .i64 (rstTo f n k) ∧ ∃ oo oc, o = .slice oo k oc ∧ wr.ownsRow W0.heap.size 3 1 (.slice oo k oc) k (intCells (nthTo f n k)) ∧ Below W0.heap.size W0 wr) (fun _ _ u _ => R - (intOf u).toNat)
  case atStart => exact ⟨0, Nat.zero_le _, rfl, rfl, none, 0, rfl, ⟨rfl, .inl ⟨rfl, rfl⟩⟩, Below.refl _ _⟩
  case round =>
    obtain ⟨k, hk, rfl, rfl, oo, oc, rfl, hown, hB⟩ := hrel
    obtain ⟨c1, f1, l1⟩ := cells_of_block ((hB.block _ (cells_of_block H0.out.2).2.2).trans H0.out.2)
    have HB := Lib.hid (And.intro hB (bgo H0.out.1 hB))
    by_cases hlt : k < R
    · obtain ⟨m0, m1⟩ := rstTo_bd f hw0 n HN.out k
      have HS := Lib.hid (And.intro (nthTo_succ f n k) (rstTo_succ f n k))
      have hrow : (k : Int) < f.rows := by have := HR.out; omega
      generalize rstTo f n k = m at *
      have hmm0 : 0 ≤ m % (f.weeders + 1) := Int.emod_nonneg _ (by omega)
      have hmm1 : m % (f.weeders + 1) < f.weeders + 1 := Int.emod_lt_of_pos _ (by omega)
      have hmd0 : 0 ≤ m / (f.weeders + 1) := Int.ediv_nonneg m0 (by omega)
      have hmd1 : m / (f.weeders + 1) ≤ m := Int.ediv_le_self _ m0
      have hz : ¬ f.weeders + 1 = 0 := by omega
      have hzb : (f.weeders + 1 == 0) = false := by simpa using hz
      have HOW := Lib.hid hown
      have hs0 : W0.heap.size ≤ wr.heap.size := hB.size
      clear hB
      cases oo with
      | none =>
        clear hown
        go_upto_region 5 with (fail)
        refine wp_region_rg 15 [] (some 8) [(7, Spec.slice wr.heap.size #[iv (m % (f.weeders + 1) - 1)] 3 1), (8, ⟨fun _ v => ∃ o c, v = .slice o (k + 1) c, fun _ v Wx => Wx.ownsRow W0.heap.size 3 1 v (k + 1) (intCells (nthTo f n (k + 1)))⟩)] (by as_aux_lemma => kernel_rfl) (by as_aux_lemma => kernel_rfl) ?_
        simp only [List.take_succ_cons, List.take_zero, List.drop_succ_cons, List.drop_zero]
        repeat (first | (refine tree_det (by rfl) _ (by rfl) (fun W hW => by go_simp; (try simp (disch := omega) only [IntWalk.i64_in, Int.tmod_eq_emod_of_nonneg]); try rfl) ?_; simp only [Act.put, List.setIfInBounds_toArray, List.set_cons_succ, List.set_cons_zero]) | (refine tree_skip (by rfl) (by rfl) ?_; simp only [Act.put, List.setIfInBounds_toArray, List.set_cons_succ, List.set_cons_zero]))
        refine tree_slice wr.heap.size _ _ 1 (by rfl) (Nat.le_refl _) (by rfl) (by first | (simp; done) | simpa using hgl) (by simp) (fun W hW => by go_simp; try rfl) (fun b2 => ?_)
        simp only [Act.put, List.setIfInBounds_toArray, List.set_cons_succ, List.set_cons_zero]
        refine tree_some _ (by rfl) (by rfl) (by exact ⟨.slice none (k + 1) 0, none, 0, rfl⟩) (fun Wa hE hF => ?_) (fun v Wa Wb ho hE => ?_) (fun v hv => ?_)
        · have hE' : Ext [] wr Wa := hE
          obtain ⟨b', hb', hge, hcc⟩ := hF _ (List.Mem.head _) (by kernel_rfl)
          cases hb'
          have hown6 := owns_ext (Ms := []) HOW.out hE' (by simp)
          have hsrc : SlAt 1 Wa (.slice (some ⟨b2, 0, none⟩) 1 1) 1 (intCells [m % (f.weeders + 1) - 1]) := SlAt.of_block 1 1 hcc rfl (by decide)
          refine Does.mono (does_append_at tInts (by rfl) (by rfl) hown6 (by rfl) hsrc (one_ints _) (by omega) (by omega) (by have := hE'.size; omega)) ?_
          rintro v' Wc ⟨ho, hgr, hcase⟩
          refine ⟨owns_slice ho, ?_, ⟨hgr.os, hgr.tape, hgr.output, hgr.size, fun b hb hn => hgr.block b hb (fun e => by first | (simp [Value.ownBlock] at e; done) | (simp [Value.ownBlock] at e; exact hn (by simp [e])))⟩⟩
          show Wc.ownsRow _ _ _ v' (k + 1) _
          rw [HS.out.1, intCells_app]
          exact ho
        · exact owns_ext (Ms := []) ho hE (by simp)
        obtain ⟨o3, c3, rfl⟩ := hv
        simp only [Act.put, List.setIfInBounds_toArray, List.set_cons_succ, List.set_cons_zero]
        repeat (first | (refine tree_det (by rfl) _ (by rfl) (fun W hW => by go_simp; (try simp (disch := omega) only [IntWalk.i64_in, Int.tdiv_eq_ediv_of_nonneg]); try rfl) ?_; simp only [Act.put, List.setIfInBounds_toArray, List.set_cons_succ, List.set_cons_zero]) | (refine tree_skip (by rfl) (by rfl) ?_; simp only [Act.put, List.setIfInBounds_toArray, List.set_cons_succ, List.set_cons_zero]))
        intro W8 hE hF
        have hE' : Ext [] wr W8 := hE
        have ho8 : W8.ownsRow W0.heap.size 3 1 (.slice o3 (k + 1) c3) (k + 1) (intCells (nthTo f n (k + 1))) := hF _ (List.Mem.head _)
        have hB8 : Below W0.heap.size W0 W8 := ⟨hE'.os.trans HB.out.1.os, hE'.tape.trans HB.out.1.tape, hE'.output.trans HB.out.1.output, Nat.le_trans HB.out.1.size hE'.size, fun b hb => (hE'.block b (by have := HB.out.1.size; omega) (by simp <;> omega)).trans (HB.out.1.block b hb)⟩
        have H8 := Lib.hid (And.intro ho8 hB8)
        clear hE hF hE' ho8 hB8 c1 f1 l1
        go_wp2_with fail
        go_roundw
        case rel => exact ⟨k + 1, by omega, by go_num, by rw [HS.out.2], o3, c3, rfl, H8.out.1, H8.out.2⟩
        case measure => simp [intOf]; omega
      | some g =>
        obtain ⟨gb, go_, gs⟩ := g
        have hge := (owns_ge hown gb rfl)
        have hgl : gb < wr.heap.size := hge.2
        have hgw : W0.heap.size ≤ gb := hge.1
        have hg0 : ¬ w.heap.size = gb := by have := (cells_of_block H0.out.2).2.2; omega
        have hg1 : ¬ gb = w.heap.size := fun e => hg0 e.symm
        clear hown hge
        go_upto_region 5 with (fail)
        refine wp_region_rg 15 [gb] (some 8) [(7, Spec.slice wr.heap.size #[iv (m % (f.weeders + 1) - 1)] 3 1), (8, ⟨fun _ v => ∃ o c, v = .slice o (k + 1) c, fun _ v Wx => Wx.ownsRow W0.heap.size 3 1 v (k + 1) (intCells (nthTo f n (k + 1)))⟩)] (by as_aux_lemma => kernel_rfl) (by as_aux_lemma => kernel_rfl) ?_
        simp only [List.take_succ_cons, List.take_zero, List.drop_succ_cons, List.drop_zero]
        repeat (first | (refine tree_det (by rfl) _ (by rfl) (fun W hW => by go_simp; (try simp (disch := omega) only [IntWalk.i64_in, Int.tmod_eq_emod_of_nonneg]); try rfl) ?_; simp only [Act.put, List.setIfInBounds_toArray, List.set_cons_succ, List.set_cons_zero]) | (refine tree_skip (by rfl) (by rfl) ?_; simp only [Act.put, List.setIfInBounds_toArray, List.set_cons_succ, List.set_cons_zero]))
        refine tree_slice wr.heap.size _ _ 1 (by rfl) (Nat.le_refl _) (by rfl) (by first | (simp; done) | simpa using hgl) (by simp) (fun W hW => by go_simp; try rfl) (fun b2 => ?_)
        simp only [Act.put, List.setIfInBounds_toArray, List.set_cons_succ, List.set_cons_zero]
        refine tree_some _ (by rfl) (by rfl) (by exact ⟨.slice none (k + 1) 0, none, 0, rfl⟩) (fun Wa hE hF => ?_) (fun v Wa Wb ho hE => ?_) (fun v hv => ?_)
        · have hE' : Ext [] wr Wa := hE
          obtain ⟨b', hb', hge, hcc⟩ := hF _ (List.Mem.head _) (by kernel_rfl)
          cases hb'
          have hown6 := owns_ext (Ms := []) HOW.out hE' (by simp)
          have hsrc : SlAt 1 Wa (.slice (some ⟨b2, 0, none⟩) 1 1) 1 (intCells [m % (f.weeders + 1) - 1]) := SlAt.of_block 1 1 hcc rfl (by decide)
          refine Does.mono (does_append_at tInts (by rfl) (by rfl) hown6 (by rfl) hsrc (one_ints _) (by omega) (by omega) (by have := hE'.size; omega)) ?_
          rintro v' Wc ⟨ho, hgr, hcase⟩
          refine ⟨owns_slice ho, ?_, ⟨hgr.os, hgr.tape, hgr.output, hgr.size, fun b hb hn => hgr.block b hb (fun e => by first | (simp [Value.ownBlock] at e; done) | (simp [Value.ownBlock] at e; exact hn (by simp [e])))⟩⟩
          show Wc.ownsRow _ _ _ v' (k + 1) _
          rw [HS.out.1, intCells_app]
          exact ho
        · exact owns_ext (Ms := []) ho hE (by simp)
        obtain ⟨o3, c3, rfl⟩ := hv
        simp only [Act.put, List.setIfInBounds_toArray, List.set_cons_succ, List.set_cons_zero]
        repeat (first | (refine tree_det (by rfl) _ (by rfl) (fun W hW => by go_simp; (try simp (disch := omega) only [IntWalk.i64_in, Int.tdiv_eq_ediv_of_nonneg]); try rfl) ?_; simp only [Act.put, List.setIfInBounds_toArray, List.set_cons_succ, List.set_cons_zero]) | (refine tree_skip (by rfl) (by rfl) ?_; simp only [Act.put, List.setIfInBounds_toArray, List.set_cons_succ, List.set_cons_zero]))
        intro W8 hE hF
        have hE' : Ext [gb] wr W8 := hE
        have ho8 : W8.ownsRow W0.heap.size 3 1 (.slice o3 (k + 1) c3) (k + 1) (intCells (nthTo f n (k + 1))) := hF _ (List.Mem.head _)
        have hB8 : Below W0.heap.size W0 W8 := ⟨hE'.os.trans HB.out.1.os, hE'.tape.trans HB.out.1.tape, hE'.output.trans HB.out.1.output, Nat.le_trans HB.out.1.size hE'.size, fun b hb => (hE'.block b (by have := HB.out.1.size; omega) (by simp <;> omega)).trans (HB.out.1.block b hb)⟩
        have H8 := Lib.hid (And.intro ho8 hB8)
        clear hE hF hE' ho8 hB8 c1 f1 l1
        go_wp2_with fail
        go_roundw
        case rel => exact ⟨k + 1, by omega, by go_num, by rw [HS.out.2], o3, c3, rfl, H8.out.1, H8.out.2⟩
        case measure => simp [intOf]; omega
    · have hkR : k = R := by omega
      have hrow : ¬ (k : Int) < f.rows := by have := HR.out; omega
      subst hkR
      have HOW := Lib.hid hown
      clear hB hown
      go_wp2_with fail
      go_returns
      refine ⟨.slice oo k oc, by simp, ?_, HB.out.2⟩
      rw [HQ.out, nthTo_len]
      exact owns_base HOW.out H0.out.1.size

end Go.Proofs.Ytdjgikcnmokjkaa
