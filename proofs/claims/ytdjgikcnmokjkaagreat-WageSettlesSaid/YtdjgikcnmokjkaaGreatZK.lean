/-
  The reference of chapter 9: Settles, Settle.
-/
import Derived.WalkKit
import Derived.WalkLawsBesides
import Derived.WalkSpells
import Derived.Outline
import Derived.Handy
import Derived.KernelRfl
import Derived.Lib.Hide
import Derived.BigRegion
import Derived.Deep.Cut
import Derived.Test.YtdjgikcnmokjkaaGreatZJ
namespace Go.Proofs.YtdjgikcnmokjkaaGreat
open Go.RowKit Go.RG Go.SL Go.Shelf Cou Go.TB
set_option maxHeartbeats 400000
set_option maxRecDepth 10000

theorem pow_castK (n : Nat) : (2 : Int) ^ n - 1 = ((2 ^ n - 1 : Nat) : Int) := by
  have := Nat.one_le_two_pow (n := n)
  rw [Int.natCast_sub this]
  simp

theorem zSettles_any {l : LedgerD} (hS : SoundL l) (tv nv ev : Value) (es : List LE) (m : Nat) (w : World) (he : ListsAt w ev es) (hes : es.map (·.2) = rtruths l.field) (hm : m < 2 ^ l.field.rows.toNat) :
    Calls Tryz.prog 49 #[lv l tv nv, ev, iv m] w (PV (.bool (settlesAll l.field (bitsL m))) w) := by
  have hF := soundF_of hS.field
  have HX := Lib.hid he
  have HSE := Lib.hid (fun (i : Nat) (hi : i ≤ 1000) (W : World) (h : ListsAt W ev es) => wSettles_any hF ev es i m W h hes hm hi)
  obtain ⟨n, hn⟩ : ∃ n : Nat, l.field.weeders = n := ⟨l.field.weeders.toNat, by have := hF.weed0; omega⟩
  have hn3 : n ≤ 3 := by have := hF.weed1; omega
  have HN := Lib.hid hn
  obtain ⟨q, hq⟩ : ∃ q, settlesAll l.field (bitsL m) = q := ⟨_, rfl⟩
  have HQ := Lib.hid (show q = true ↔ ∀ i : Nat, i < n → settlesF l.field (i : Int) (bitsL m) = true from by rw [← hq, settlesAll_iff, hn]; simp)
  rw [hq]
  obtain ⟨o, c, rfl⟩ := he.1.open
  clear hS hF he hes hm hn hq
  go_enter Tryz.func49, Tryz.ntmps49
  go_wp2_with fail
  have hk0 := heap_new0 w (.cells (lcells l tv nv) 30)
  obtain ⟨w1, hw1⟩ : ∃ w1, w.alloc (.cells (lcells l tv nv) 30) = w1 := ⟨_, rfl⟩
  have hB1 : Below w.heap.size w w1 := by rw [← hw1]; exact bgoAlloc (Below.refl _ _) _
  rw [hw1] at hk0
  first | rw [hw1] | skip
  have HK1 := Lib.hid (Keeps.one hB1 hk0)
  clear hw1 hB1 hk0
  go_loopw [7] (fun u wr => ∃ i : Nat, i ≤ n ∧ u = .int .i64 i ∧ (∀ j : Nat, j < i → settlesF l.field (j : Int) (bitsL m) = true) ∧ Below w1.heap.size w1 wr) (fun u _ => n - (intOf u).toNat)
  case atStart => exact ⟨0, Nat.zero_le _, rfl, fun _ h => by omega, Below.refl _ _⟩
  case round =>
    obtain ⟨i, hi, rfl, hok, hB⟩ := hrel
    have HKR := Lib.hid (HK1.out.next hB)
    obtain ⟨c0, f0, l0⟩ := cells_of_block HKR.out.blk
    have HOK := Lib.hid (And.intro hok hB)
    clear hok hB
    by_cases hlt : i < n
    · have hltI : (i : Int) < l.field.weeders := by rw [HN.out]; omega
      have HS := Lib.hid (HSE.out i (by omega) wr ⟨SlAt.below HX.out.1 HKR.out.below (Nat.le_refl _), fun e he => (HX.out.2 e he).below HKR.out.below (Nat.le_refl _)⟩)
      obtain ⟨b, hb⟩ : ∃ b, settlesF l.field (i : Int) (bitsL m) = b := ⟨_, rfl⟩
      rw [hb] at HS
      have HBB := Lib.hid hb
      clear hb
      go_wp2_with fail
      refine HS.out.mono ?_
      rintro e W2 ⟨rfl, hb⟩
      have HB2 := Lib.hid (And.intro (bgo HOK.out.2 hb) (bgo HKR.out.below hb))
      clear hb c0 f0
      cases b
      · obtain rfl : q = false := by
          cases q
          · rfl
          · have := HQ.out.1 rfl i hlt
            rw [HBB.out] at this
            cases this
        go_wp2_with fail
        go_returns
        exact ⟨by simp, HB2.out.2⟩
      · have HV := Lib.hid (show ∀ j : Nat, j < i + 1 → settlesF l.field (j : Int) (bitsL m) = true from fun j hj => by
          by_cases e : j = i
          · subst e; exact HBB.out
          · exact HOK.out.1 j (by omega))
        go_wp2_with fail
        go_roundw
        case rel => exact ⟨i + 1, by omega, by go_num, HV.out, HB2.out.1⟩
        case measure => simp [intOf]; omega
    · have hnl : ¬ (i : Int) < l.field.weeders := by rw [HN.out]; omega
      obtain rfl : q = true := HQ.out.2 fun j hj => HOK.out.1 j (by omega)
      go_wp2_with fail
      go_returns
      exact ⟨by simp, HKR.out.below⟩

set_option maxHeartbeats 4000000 in
theorem zSettle_any {l : LedgerD} (hS : SoundL l) (tv nv ev : Value) (es : List LE) (w : World) (he : ListsAt w ev es) (hes : es.map (·.2) = rtruths l.field) :
    Calls Tryz.prog 50 #[lv l tv nv, ev] w (PInts (settleF l.field) w) := by
  have hF := soundF_of hS.field
  obtain ⟨o, c, rfl⟩ := he.1.open
  have HX := Lib.hid he
  obtain ⟨R, hR⟩ : ∃ R : Nat, l.field.rows = R := ⟨l.field.rows.toNat, by have := hF.rows0; omega⟩
  have hRt : l.field.rows.toNat = R := by omega
  have hR7 : R ≤ 7 := by have := hF.rows1; omega
  obtain ⟨hp1, hp2⟩ := pow_bd hR7
  have h2R : 2 ^ R ≤ 2 ^ 7 := Nat.pow_le_pow_right (by omega) hR7
  have h1R := Nat.one_le_two_pow (n := R)
  have hpe : (2 : Int) ^ R = ((2 ^ R : Nat) : Int) := by norm_cast
  have hbest := settle_best l.field
  rw [hRt] at hbest
  have hst : ∀ k, bestS (settlesAll l.field) R (k + 1) = if (shorter (bitsL k) (bestS (settlesAll l.field) R k) && settlesAll l.field (bitsL k)) = true then bitsL k else bestS (settlesAll l.field) R k := fun k => rfl
  have HB0 := Lib.hid (fun (W : World) => show Calls Tryz.prog 51 #[iv ((2 : Int) ^ R - 1)] W (PInts (bestS (settlesAll l.field) R 0) W) from by
    rw [pow_castK, bestS]
    exact rBits_any _ 7 W (by omega) (by omega))
  have HSE := Lib.hid (fun (k : Nat) (hk : k < 2 ^ R) (W : World) (h : ListsAt W (.slice o es.length c) es) => zSettles_any hS tv nv (.slice o es.length c) es k W h hes (by rw [hRt]; exact hk))
  obtain ⟨BS, hBS⟩ : ∃ BS : Nat → List Int, bestS (settlesAll l.field) R = BS := ⟨_, rfl⟩
  rw [hBS] at hbest hst HB0
  obtain ⟨PW, hPW⟩ : ∃ PW : Nat, 2 ^ R = PW := ⟨_, rfl⟩
  rw [hPW] at hpe h2R h1R HSE hbest
  rw [hpe] at HB0 hp1 hp2
  have HST := Lib.hid (And.intro hst hbest)
  have HR := Lib.hid hR
  clear hS hF he hes hRt hst hBS hbest hPW hR
  go_enter Tryz.func50, Tryz.ntmps50
  go_upto_region 1 with (fail)
  refine gworld fun w1 hw1 => ?_
  have hk0 : w1.heap[w.heap.size]? = some (.cells #[iv (R : Int), iv l.field.weeders, iv l.field.left.1, iv l.field.left.2, tv, iv l.rate, iv l.box.1, iv l.box.2, nv] 30 (0, 0)) := by rw [hw1, ← HR.out]; exact heap_new0 w _
  have hB1 : Below w.heap.size w w1 := by rw [hw1]; exact bgoAlloc (Below.refl _ _) _
  have HK1 := Lib.hid ((Keeps.one hB1 hk0).add (T := fun W => ListsAt W (.slice o es.length c) es) ⟨SlAt.below HX.out.1 hB1 (Nat.le_refl _), fun e he => (HX.out.2 e he).below hB1 (Nat.le_refl _)⟩ (fun W' h => ⟨SlAt.below (SlAt.below HX.out.1 hB1 (Nat.le_refl _)) h (Nat.le_refl _), fun e he => ((HX.out.2 e he).below hB1 (Nat.le_refl _)).below h (Nat.le_refl _)⟩))
  clear hw1 hB1 hk0
  obtain ⟨c0, f0, l0⟩ := cells_of_block HK1.out.blk
  have hPW1 : (PW : Int) ≤ 128 := by omega
  go_wp2_with fail
  refine (HB0.out w1).mono ?_
  rintro e W3 ⟨v3, rfl, hv3, hb⟩
  obtain ⟨o3, c3, rfl⟩ := hv3.open
  have HV3 := Lib.hid hv3
  clear hv3
  have HK3 := Lib.hid (HK1.out.next hb)
  clear hb
  (try clear c0 f0)
  obtain ⟨c0, f0, l0⟩ := cells_of_block HK3.out.blk
  go_wp2_with fail
  clear c0 f0
  go_loopw [5, 6] (fun b u wr => ∃ k : Nat, k ≤ PW ∧ u = .int .i64 k ∧ ∃ ob cb, b = .slice ob (BS k).length cb ∧ IntsAt wr (.slice ob (BS k).length cb) (BS k) ∧ Below W3.heap.size W3 wr) (fun _ u _ => PW - (intOf u).toNat)
  case atStart => exact ⟨0, Nat.zero_le _, rfl, o3, c3, rfl, HV3.out, Below.refl _ _⟩
  case round =>
    obtain ⟨k, hk, rfl, ob, cb, rfl, hL, hB⟩ := hrel
    have HK5 := Lib.hid (((HK3.out.next hB).add (T := fun W => IntsAt W (.slice ob (BS k).length cb) (BS k)) hL (last_at hL)).add (T := fun W => Below W3.heap.size W3 W) hB (fun W' h => bgo hB h))
    obtain ⟨c0, f0, l0'⟩ := cells_of_block HK5.out.blk
    clear hL hB
    by_cases hlt : k < PW
    · have hltI : (k : Int) < PW := by omega
      go_wp2_with fail
      refine (rBits_any k 7 wr (by omega) (by omega)).mono ?_
      rintro e W6 ⟨v6, rfl, hv6, hb⟩
      obtain ⟨o6, c6, rfl⟩ := hv6.open
      have HV6 := Lib.hid hv6
      clear hv6
      have HK6 := Lib.hid (HK5.out.next hb)
      clear hb
      (try clear c0 f0)
      obtain ⟨c0, f0, l0⟩ := cells_of_block HK6.out.blk
      have HK6 := Lib.hid (HK6.out.add (T := fun W => IntsAt W (.slice o6 (bitsL k).length c6) (bitsL k)) HV6.out (last_at HV6.out))
      have HSH := Lib.hid (Shorter_any _ _ _ _ W6 HK6.out.is.1 HK6.out.is.2.2.1)
      have HST1 := Lib.hid (HST.out.1 k)
      go_wp2_with fail
      refine HSH.out.mono ?_
      clear HSH
      obtain ⟨s, hs⟩ : ∃ s, shorter (bitsL k) (BS k) = s := ⟨_, rfl⟩
      rw [hs] at HST1 ⊢
      rintro e W7 ⟨rfl, hb⟩
      have HK7 := Lib.hid (HK6.out.next hb)
      clear hb
      (try clear c0 f0)
      obtain ⟨c0, f0, l0⟩ := cells_of_block HK7.out.blk
      clear hs
      cases s
      · have HV := Lib.hid (show BS (k + 1) = BS k from by rw [HST1.out]; rfl)
        go_wp2_with fail
        go_roundw
        case rel => exact ⟨k + 1, by omega, by go_num, ob, cb, by rw [HV.out], by rw [HV.out]; exact HK7.out.is.2.2.1, HK7.out.is.2.1⟩
        case measure => simp [intOf]; omega
      · have HC := Lib.hid (HSE.out k hlt W7 HK7.out.is.2.2.2.1)
        obtain ⟨b, hb'⟩ : ∃ b, settlesAll l.field (bitsL k) = b := ⟨_, rfl⟩
        rw [hb'] at HC HST1
        have hlv : lv l tv nv = .agg #[iv (R : Int), iv l.field.weeders, iv l.field.left.1, iv l.field.left.2, tv, iv l.rate, iv l.box.1, iv l.box.2, nv] := by rw [← HR.out]
        rw [hlv] at HC
        clear hb' hlv
        go_wp2_with fail
        refine HC.out.mono ?_
        rintro e W8 ⟨rfl, hb⟩
        have HK8 := Lib.hid (HK7.out.next hb)
        clear hb
        (try clear c0 f0)
        obtain ⟨c0, f0, l0⟩ := cells_of_block HK8.out.blk
        cases b
        · have HV := Lib.hid (show BS (k + 1) = BS k from by rw [HST1.out]; rfl)
          go_wp2_with fail
          go_roundw
          case rel => exact ⟨k + 1, by omega, by go_num, ob, cb, by rw [HV.out], by rw [HV.out]; exact HK8.out.is.2.2.1, HK8.out.is.2.1⟩
          case measure => simp [intOf]; omega
        · have HV := Lib.hid (show BS (k + 1) = bitsL k from by rw [HST1.out]; rfl)
          go_wp2_with fail
          go_roundw
          case rel => exact ⟨k + 1, by omega, by go_num, o6, c6, by rw [HV.out], by rw [HV.out]; exact HK8.out.is.1, HK8.out.is.2.1⟩
          case measure => simp [intOf]; omega
    · have hnl : ¬ (k : Int) < PW := by omega
      have hke : k = PW := by omega
      subst hke
      go_wp2_with fail
      go_returns
      exact ⟨.slice ob (BS k).length cb, by simp, by rw [← HST.out.2]; exact HK5.out.is.2.1, HK5.out.below⟩
end Go.Proofs.YtdjgikcnmokjkaaGreat
