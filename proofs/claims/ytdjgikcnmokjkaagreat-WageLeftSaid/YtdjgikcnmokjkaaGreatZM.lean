/-
  The reference of chapter 9: First, Leave.
-/
import Derived.WalkKit
import Derived.WalkLawsBesides
import Derived.WalkSpells
import Derived.Outline
import Derived.Handy
import Derived.KernelRfl
import Derived.Lib.Hide
import Derived.BigRegion
import Derived.Deep.Cut
import Derived.Test.YtdjgikcnmokjkaaGreatZI
import Derived.Test.YtdjgikcnmokjkaaGreatZJ
namespace Go.Proofs.YtdjgikcnmokjkaaGreat
open Go.RowKit Go.RG Go.SL Go.Shelf Cou Go.TB
set_option maxHeartbeats 400000
set_option maxRecDepth 10000

theorem bv_ofInt (a : Nat) : BitVec.ofInt 64 (a : Int) = BitVec.ofNat 64 a := by
  apply BitVec.eq_of_toNat_eq
  simp

theorem andNot_nat (a b : Nat) (ha : a < 2 ^ 63) : ∃ c : Nat, bits .andNot .i64 (a : Int) (b : Int) = (c : Int) ∧ c ≤ a ∧ ∀ i, c.testBit i = (a.testBit i && !b.testBit i) := by
  have key : ∀ i, (BitVec.ofNat 64 a &&& ~~~BitVec.ofNat 64 b).toNat.testBit i = (a.testBit i && !b.testBit i) := by
    intro i
    rw [BitVec.testBit_toNat, BitVec.getLsbD_and, BitVec.getLsbD_not]
    simp only [BitVec.getLsbD_ofNat]
    by_cases hi : i < 64
    · simp [hi]
    · have : a.testBit i = false := Nat.testBit_lt_two_pow (Nat.lt_of_lt_of_le ha (Nat.pow_le_pow_right (by omega) (by omega)))
      simp [hi, this]
  have hle : (BitVec.ofNat 64 a &&& ~~~BitVec.ofNat 64 b).toNat ≤ a := by
    rw [BitVec.toNat_and, BitVec.toNat_ofNat, Nat.mod_eq_of_lt (by omega)]
    exact Nat.and_le_left
  refine ⟨(BitVec.ofNat 64 a &&& ~~~BitVec.ofNat 64 b).toNat, ?_, hle, key⟩
  show IntKind.i64.wrap ((BitVec.ofInt 64 (a : Int) &&& ~~~BitVec.ofInt 64 (b : Int)).toNat : Int) = _
  rw [bv_ofInt, bv_ofInt]
  exact wraps63 _ (by omega) (by omega)

theorem pow_castM (n : Nat) : (2 : Int) ^ n - 1 = ((2 ^ n - 1 : Nat) : Int) := by
  have := Nat.one_le_two_pow (n := n)
  rw [Int.natCast_sub this]
  simp
theorem pow_cast2M (n : Nat) : 2 * (2 : Int) ^ n - 1 = ((2 ^ (n + 1) - 1 : Nat) : Int) := by
  rw [← pow_castM, Int.pow_succ]
  omega
theorem leftL_congr {l : LedgerD} {o q : List Int} (h : ∀ i : Nat, i < l.notes.length → o.contains (i : Int) = q.contains (i : Int)) : leftL l o = leftL l q := by
  unfold leftL leftTo
  congr 1
  refine List.filter_congr fun i hi => ?_
  rw [h i (List.mem_range.1 hi)]
theorem possible_congr {l : LedgerD} {o q : List Int} (h : ∀ i : Nat, i < l.notes.length → o.contains (i : Int) = q.contains (i : Int)) : possibleL l o = possibleL l q := possible_left rfl rfl rfl (leftL_congr h)
theorem later_bits {l : LedgerD} {k M : Nat} (hM : ∀ i, M.testBit i = ((2 ^ l.notes.length - 1).testBit i && !(2 ^ (k + 1) - 1).testBit i)) : possibleL l (bitsL M) = possibleL l (laterL l.notes.length (k + 1)) := by
  refine possible_congr fun i hi => ?_
  rw [contains_bits, hM, later_has hi, Nat.testBit_two_pow_sub_one, Nat.testBit_two_pow_sub_one, Bool.eq_iff_iff]
  simp
  omega

def rfirstV (l : LedgerD) : Int := match firstW l with
  | some k => (k : Int)
  | none => -1

set_option maxHeartbeats 4000000 in
theorem zFirst_any {l : LedgerD} (hS : SoundL l) (tv nv ev : Value) (es : List LE) (w : World) (hn : TriplesAt w nv l.notes) (he : ListsAt w ev es) (hes : es.map (·.2) = rtruths l.field) :
    Calls Tryz.prog 37 #[lv l tv nv, ev] w (PV (iv (rfirstV l)) w) := by
  obtain ⟨on, cn, rfl⟩ := hn.open
  obtain ⟨o, c, rfl⟩ := he.1.open
  have HX := Lib.hid (And.intro hn he)
  have hn5 := hS.many
  obtain ⟨q, hq⟩ : ∃ q, rfirstV l = q := ⟨_, rfl⟩
  rw [hq]
  have HQ := Lib.hid hq
  have HCAN := Lib.hid (fun (M : Nat) (hM : (M : Int) ≤ 1000) (W : World) (h1 : TriplesAt W (.slice on l.notes.length cn) l.notes) (h2 : ListsAt W (.slice o es.length c) es) => Can_any hS tv (.slice on l.notes.length cn) (.slice o es.length c) es M W h1 h2 hes hM)
  have HFU := Lib.hid (fun (W : World) (h1 : TriplesAt W (.slice on l.notes.length cn) l.notes) => zFull_any l tv (.slice on l.notes.length cn) W h1 (by omega))
  rw [pow_castM] at HFU
  clear hn he hes hS hq
  go_enter Tryz.func37, Tryz.ntmps37
  go_wp2_with fail
  have hk0 := heap_new0 w (.cells (lcells l tv (.slice on l.notes.length cn)) 30)
  obtain ⟨w1, hw1⟩ : ∃ w1, w.alloc (.cells (lcells l tv (.slice on l.notes.length cn)) 30) = w1 := ⟨_, rfl⟩
  have hB1 : Below w.heap.size w w1 := by rw [← hw1]; exact bgoAlloc (Below.refl _ _) _
  rw [hw1] at hk0
  first | rw [hw1] | skip
  have HK1 := Lib.hid (Keeps.one hB1 hk0)
  clear hw1 hB1 hk0
  go_loopw [5] (fun u wr => ∃ k : Nat, k ≤ l.notes.length ∧ u = .int .i64 k ∧ (∀ j, j < k → possibleL l (laterL l.notes.length (j + 1)) = true) ∧ Below w1.heap.size w1 wr) (fun u _ => l.notes.length - (intOf u).toNat)
  case atStart => exact ⟨0, Nat.zero_le _, rfl, fun j hj => by omega, Below.refl _ _⟩
  case round =>
    obtain ⟨k, hk, rfl, hok, hB⟩ := hrel
    have HKR := Lib.hid (HK1.out.next hB)
    obtain ⟨c0, f0, l0⟩ := cells_of_block HKR.out.blk
    have HOK := Lib.hid (And.intro hok hB)
    clear hok hB
    by_cases hlt : k < l.notes.length
    · have hltI : (k : Int) < l.notes.length := by omega
      obtain ⟨hp1, hp2⟩ := pow_bd (show k ≤ 4 by omega)
      have hpc := pow_cast2M k
      have h32 : 2 ^ l.notes.length ≤ 2 ^ 5 := Nat.pow_le_pow_right (by omega) hn5
      obtain ⟨M, hand, hM1, hM2⟩ := andNot_nat (2 ^ l.notes.length - 1) (2 ^ (k + 1) - 1) (by omega)
      have hlb := later_bits hM2
      have HC := Lib.hid (fun (W : World) (h : Below wr.heap.size wr W) => HCAN.out M (by omega) W (HX.out.1.below (bgo HKR.out.below h) (Nat.le_refl _)) ⟨SlAt.below HX.out.2.1 (bgo HKR.out.below h) (Nat.le_refl _), fun e he => (HX.out.2.2 e he).below (bgo HKR.out.below h) (Nat.le_refl _)⟩)
      have HF := Lib.hid (fun (W : World) (h : Below wr.heap.size wr W) => HFU.out W (HX.out.1.below (bgo HKR.out.below h) (Nat.le_refl _)))
      have hraw : IntKind.i64.wrap (IntKind.i64.wrap (2 * 2 ^ min (IntKind.u64.wrap (k : Int)).toNat 64) - 1) = ((2 ^ (k + 1) - 1 : Nat) : Int) := by
        obtain rfl | rfl | rfl | rfl | rfl : k = 0 ∨ k = 1 ∨ k = 2 ∨ k = 3 ∨ k = 4 := by omega
        all_goals rfl
      rw [hlb] at HC
      obtain ⟨FN, hFN⟩ : ∃ FN : Nat, 2 ^ l.notes.length - 1 = FN := ⟨_, rfl⟩
      rw [hFN] at hand HF
      obtain ⟨b, hb⟩ : ∃ b, possibleL l (laterL l.notes.length (k + 1)) = b := ⟨_, rfl⟩
      rw [hb] at HC
      have HBB := Lib.hid hb
      have hM31 : M ≤ 31 := by omega
      clear hpc hM1 hM2 hlb hFN hb h32
      go_wp2_with fail
      refine wp_region_rg 10 [] none [(3, Spec.val (iv (FN : Int))), (9, Spec.val (.bool b))] (by as_aux_lemma => kernel_rfl) (by as_aux_lemma => kernel_rfl) ?_
      simp only [List.take_succ_cons, List.take_zero, List.drop_succ_cons, List.drop_zero]
      repeat (first | (refine tree_det (by rfl) _ (by rfl) (fun W hW => by go_simp; (try simp (disch := omega) only [IntWalk.i64_in]); try rfl) ?_; simp only [Act.put, List.setIfInBounds_toArray, List.set_cons_succ, List.set_cons_zero]) | (refine tree_skip (by rfl) (by rfl) ?_; simp only [Act.put, List.setIfInBounds_toArray, List.set_cons_succ, List.set_cons_zero]))
      refine tree_val _ (by rfl) (by rfl) 63 #[lv l tv (.slice on l.notes.length cn)] (fun W hW => by go_simp; try rfl) (fun W hE hF => by exact HF.out W (Ext.below (show Ext [] wr W from hE))) ?_
      simp only [Act.put, List.setIfInBounds_toArray, List.set_cons_succ, List.set_cons_zero]
      repeat (first | (refine tree_det (by rfl) _ (by rfl) (fun W hW => by go_simp; (try simp (disch := omega) only [IntWalk.i64_in]); try rfl) ?_; simp only [Act.put, List.setIfInBounds_toArray, List.set_cons_succ, List.set_cons_zero]) | (refine tree_skip (by rfl) (by rfl) ?_; simp only [Act.put, List.setIfInBounds_toArray, List.set_cons_succ, List.set_cons_zero]))
      try rw [hraw, hand]
      refine tree_val _ (by rfl) (by rfl) 90 #[lv l tv (.slice on l.notes.length cn), .slice o es.length c, iv M] (fun W hW => by go_simp; try rfl) (fun W hE hF => by exact HC.out W (Ext.below (show Ext [] wr W from hE))) ?_
      simp only [Act.put, List.setIfInBounds_toArray, List.set_cons_succ, List.set_cons_zero]
      repeat (first | (refine tree_det (by rfl) _ (by rfl) (fun W hW => by go_simp; (try simp (disch := omega) only [IntWalk.i64_in]); try rfl) ?_; simp only [Act.put, List.setIfInBounds_toArray, List.set_cons_succ, List.set_cons_zero]) | (refine tree_skip (by rfl) (by rfl) ?_; simp only [Act.put, List.setIfInBounds_toArray, List.set_cons_succ, List.set_cons_zero]))
      intro X hE hF
      have HXX := Lib.hid (Ext.below (show Ext [] wr X from hE))
      clear hE hF c0 f0
      cases b
      · obtain rfl : q = (k : Int) := by rw [← HQ.out]; unfold rfirstV; rw [firstW_at hlt HOK.out.1 HBB.out]
        go_wp2_with fail
        go_returns
        exact ⟨by simp, bgo HKR.out.below HXX.out⟩
      · have HV := Lib.hid (show ∀ j, j < k + 1 → possibleL l (laterL l.notes.length (j + 1)) = true from fun j hj => by
          by_cases e : j = k
          · subst e; exact HBB.out
          · exact HOK.out.1 j (by omega))
        go_wp2_with fail
        go_roundw
        case rel => exact ⟨k + 1, by omega, by go_num, HV.out, bgo HOK.out.2 HXX.out⟩
        case measure => simp [intOf]; omega
    · have hnl : ¬ (k : Int) < l.notes.length := by omega
      obtain rfl : q = -1 := by rw [← HQ.out]; unfold rfirstV; rw [firstW_no (fun j hj => HOK.out.1 j (by omega))]
      go_wp2_with fail
      go_returns
      exact ⟨by simp, HKR.out.below⟩

set_option maxHeartbeats 4000000 in
theorem zLeave_any {l : LedgerD} (hS : SoundL l) (hp : possibleL l (upto l.notes.length) = true) (tv nv ev : Value) (es : List LE) (w : World) (hn : TriplesAt w nv l.notes) (he : ListsAt w ev es) (hes : es.map (·.2) = rtruths l.field) :
    Calls Tryz.prog 36 #[lv l tv nv, ev] w (PInts (leaveW l) w) := by
  obtain ⟨on, cn, rfl⟩ := hn.open
  obtain ⟨o, c, rfl⟩ := he.1.open
  have HX := Lib.hid (And.intro hn he)
  have hn5 := hS.many
  obtain ⟨N, hN⟩ : ∃ N, l.notes.length = N := ⟨_, rfl⟩
  have HCAN := Lib.hid (fun (M : Nat) (hM : (M : Int) ≤ 1000) (W : World) (h1 : TriplesAt W (.slice on l.notes.length cn) l.notes) (h2 : ListsAt W (.slice o es.length c) es) => Can_any hS tv (.slice on l.notes.length cn) (.slice o es.length c) es M W h1 h2 hes hM)
  have HFU := Lib.hid (fun (W : World) (h1 : TriplesAt W (.slice on l.notes.length cn) l.notes) => zFull_any l tv (.slice on l.notes.length cn) W h1 (by omega))
  rw [pow_castM] at HFU
  have hbest := leave_best hp
  have h32 : 2 ^ l.notes.length ≤ 2 ^ 5 := Nat.pow_le_pow_right (by omega) hn5
  have h1N := Nat.one_le_two_pow (n := l.notes.length)
  have hst : ∀ k, bestS (possibleL l) l.notes.length (k + 1) = if (shorter (bitsL k) (bestS (possibleL l) l.notes.length k) && possibleL l (bitsL k)) = true then bitsL k else bestS (possibleL l) l.notes.length k := fun k => rfl
  have hz : bestS (possibleL l) l.notes.length 0 = bitsL (2 ^ l.notes.length - 1) := rfl
  obtain ⟨BS, hBS⟩ : ∃ BS : Nat → List Int, bestS (possibleL l) l.notes.length = BS := ⟨_, rfl⟩
  obtain ⟨FN, hFN⟩ : ∃ FN : Nat, 2 ^ l.notes.length - 1 = FN := ⟨_, rfl⟩
  rw [hBS] at hbest hst hz
  rw [hFN] at HFU hz
  rw [show 2 ^ l.notes.length = FN + 1 by omega] at hbest
  have hF31 : FN ≤ 31 := by omega
  rw [hN] at HCAN HFU HX ⊢
  have HST := Lib.hid (And.intro hst (And.intro hz hbest))
  clear hn he hes hS hp hN hst hz hbest hBS hFN h32 h1N hn5
  go_enter Tryz.func36, Tryz.ntmps36
  go_wp2_with fail
  refine gworldC fun w1 hw1 => ?_
  have hk0 : w1.heap[w.heap.size]? = some (.cells (lcells l tv (.slice on N cn)) 30 (0, 0)) := by rw [hw1]; exact heap_new0 w _
  have hB1 : Below w.heap.size w w1 := by rw [hw1]; exact bgoAlloc (Below.refl _ _) _
  have HK1 := Lib.hid ((Keeps.one hB1 hk0).add (T := fun W => TriplesAt W (.slice on N cn) l.notes ∧ ListsAt W (.slice o es.length c) es) ⟨HX.out.1.below hB1 (Nat.le_refl _), SlAt.below HX.out.2.1 hB1 (Nat.le_refl _), fun e he => (HX.out.2.2 e he).below hB1 (Nat.le_refl _)⟩ (fun W' h => ⟨(HX.out.1.below hB1 (Nat.le_refl _)).below h (Nat.le_refl _), SlAt.below (SlAt.below HX.out.2.1 hB1 (Nat.le_refl _)) h (Nat.le_refl _), fun e he => ((HX.out.2.2 e he).below hB1 (Nat.le_refl _)).below h (Nat.le_refl _)⟩))
  clear hw1 hB1 hk0
  refine (HFU.out w1 HK1.out.is.1.1).mono ?_
  rintro e W2 ⟨rfl, hb⟩
  have HK2 := Lib.hid (HK1.out.next hb)
  clear hb
  (try clear c0 f0)
  obtain ⟨c0, f0, l0⟩ := cells_of_block HK2.out.blk
  go_wp2_with fail
  refine (rBits_any FN 5 W2 (by omega) (by omega)).mono ?_
  rintro e W3 ⟨v3, rfl, hv3, hb⟩
  rw [← HST.out.2.1] at hv3
  obtain ⟨o3, c3, rfl⟩ := hv3.open
  have HV3 := Lib.hid hv3
  clear hv3
  have HK3 := Lib.hid (HK2.out.next hb)
  clear hb
  (try clear c0 f0)
  obtain ⟨c0, f0, l0⟩ := cells_of_block HK3.out.blk
  go_wp2_with fail
  clear c0 f0
  go_loopw [5, 6] (fun b u wr => ∃ k : Nat, k ≤ FN + 1 ∧ u = .int .i64 k ∧ ∃ ob cb, b = .slice ob (BS k).length cb ∧ IntsAt wr (.slice ob (BS k).length cb) (BS k) ∧ Below W3.heap.size W3 wr) (fun _ u _ => FN + 1 - (intOf u).toNat)
  case atStart => exact ⟨0, Nat.zero_le _, rfl, o3, c3, rfl, HV3.out, Below.refl _ _⟩
  case round =>
    obtain ⟨k, hk, rfl, ob, cb, rfl, hL, hB⟩ := hrel
    have HK4 := Lib.hid (((HK3.out.next hB).add (T := fun W => IntsAt W (.slice ob (BS k).length cb) (BS k)) hL (last_at hL)).add (T := fun W => Below W3.heap.size W3 W) hB (fun W' h => bgo hB h))
    obtain ⟨c0, f0, l0'⟩ := cells_of_block HK4.out.blk
    clear hL hB
    have HF4 := Lib.hid (HFU.out wr HK4.out.is.2.2.1.1)
    go_wp2_with fail
    refine HF4.out.mono ?_
    rintro e W5 ⟨rfl, hb⟩
    have HK5 := Lib.hid (HK4.out.next hb)
    clear hb
    (try clear c0 f0)
    obtain ⟨c0, f0, l0⟩ := cells_of_block HK5.out.blk
    clear HF4
    by_cases hlt : k ≤ FN
    · have hltI : (k : Int) ≤ FN := by omega
      have hk31 : k ≤ 31 := by omega
      go_wp2_with fail
      refine (rBits_any k 5 W5 (by omega) (by omega)).mono ?_
      rintro e W6 ⟨v6, rfl, hv6, hb⟩
      obtain ⟨o6, c6, rfl⟩ := hv6.open
      have HV6 := Lib.hid hv6
      clear hv6
      have HK6 := Lib.hid (HK5.out.next hb)
      clear hb
      (try clear c0 f0)
      obtain ⟨c0, f0, l0⟩ := cells_of_block HK6.out.blk
      have HK6 := Lib.hid (HK6.out.add (T := fun W => IntsAt W (.slice o6 (bitsL k).length c6) (bitsL k)) HV6.out (last_at HV6.out))
      have HSH := Lib.hid (Shorter_any _ _ _ _ W6 HK6.out.is.1 HK6.out.is.2.2.1)
      have HST1 := Lib.hid (HST.out.1 k)
      go_wp2_with fail
      refine HSH.out.mono ?_
      clear HSH
      obtain ⟨s, hs⟩ : ∃ s, shorter (bitsL k) (BS k) = s := ⟨_, rfl⟩
      rw [hs] at HST1 ⊢
      rintro e W7 ⟨rfl, hb⟩
      have HK7 := Lib.hid (HK6.out.next hb)
      clear hb
      (try clear c0 f0)
      obtain ⟨c0, f0, l0⟩ := cells_of_block HK7.out.blk
      clear hs
      cases s
      · have HV := Lib.hid (show BS (k + 1) = BS k from by rw [HST1.out]; rfl)
        go_wp2_with fail
        go_roundw
        case rel => exact ⟨k + 1, by omega, by go_num, ob, cb, by rw [HV.out], by rw [HV.out]; exact HK7.out.is.2.2.1, HK7.out.is.2.1⟩
        case measure => simp [intOf]; omega
      · have HC := Lib.hid (HCAN.out k (by omega) W7 HK7.out.is.2.2.2.1.1 HK7.out.is.2.2.2.1.2)
        obtain ⟨b, hb'⟩ : ∃ b, possibleL l (bitsL k) = b := ⟨_, rfl⟩
        rw [hb'] at HC HST1
        clear hb'
        go_wp2_with fail
        refine HC.out.mono ?_
        rintro e W8 ⟨rfl, hb⟩
        have HK8 := Lib.hid (HK7.out.next hb)
        clear hb
        (try clear c0 f0)
        obtain ⟨c0, f0, l0⟩ := cells_of_block HK8.out.blk
        cases b
        · have HV := Lib.hid (show BS (k + 1) = BS k from by rw [HST1.out]; rfl)
          go_wp2_with fail
          go_roundw
          case rel => exact ⟨k + 1, by omega, by go_num, ob, cb, by rw [HV.out], by rw [HV.out]; exact HK8.out.is.2.2.1, HK8.out.is.2.1⟩
          case measure => simp [intOf]; omega
        · have HV := Lib.hid (show BS (k + 1) = bitsL k from by rw [HST1.out]; rfl)
          go_wp2_with fail
          go_roundw
          case rel => exact ⟨k + 1, by omega, by go_num, o6, c6, by rw [HV.out], by rw [HV.out]; exact HK8.out.is.1, HK8.out.is.2.1⟩
          case measure => simp [intOf]; omega
    · have hnl : ¬ (k : Int) ≤ FN := by omega
      have hke : k = FN + 1 := by omega
      subst hke
      go_wp2_with fail
      go_returns
      exact ⟨.slice ob (BS (FN + 1)).length cb, by simp, by rw [← HST.out.2.2]; exact HK5.out.is.2.1, HK5.out.below⟩
end Go.Proofs.YtdjgikcnmokjkaaGreat
