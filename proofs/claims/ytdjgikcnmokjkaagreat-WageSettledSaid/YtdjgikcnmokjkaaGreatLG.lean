/-
  The walk of WageSettled.
-/
import Derived.WalkKit
import Derived.WalkLawsBesides
import Derived.WalkSpells
import Derived.Outline
import Derived.Handy
import Derived.KernelRfl
import Derived.Lib.Hide
import Derived.BigRegion
import Derived.Deep.Cut
import Derived.Test.YtdjgikcnmokjkaaGreatZK
import Derived.Test.YtdjgikcnmokjkaaGreatKF
namespace Go.Proofs.YtdjgikcnmokjkaaGreat
open Go.RowKit Go.RG Go.SL Go.Shelf Cou Go.TB
set_option maxHeartbeats 400000
set_option maxRecDepth 10000

theorem and_natG (a b : Nat) (ha : a < 2 ^ 63) (hb : b < 2 ^ 63) : bits .and .i64 (a : Int) (b : Int) = ((a &&& b : Nat) : Int) := (bits_nat .i64 63 (by decide) wraps63 a b ha hb).1
def eachTo (f : FieldD) (rows : List Int) (k : Nat) : Bool := (List.range k).all fun (i : Nat) => proveAskB f (i : Int) rows
theorem eachTo_succ (f : FieldD) (rows : List Int) (k : Nat) : eachTo f rows (k + 1) = (eachTo f rows k && proveAskB f (k : Int) rows) := by
  unfold eachTo
  rw [List.range_succ, List.all_append]
  simp
theorem bits_inc (m n : Nat) (h : m < 2 ^ n) : Inc n 0 (bitsL m) := by
  rw [bitsL_eq h]
  exact inc_bitsTo _ _

/-- What the law needs. -/
theorem settled_plain {l : LedgerD} (h : faultW l = 0) : Inc l.field.rows.toNat 0 (settleF l.field) ∧ proveSettleB l (settleF l.field) = true ∧ ofBits (settleF l.field) < 2 ^ l.field.rows.toNat ∧
    (∀ i : Nat, i < l.field.weeders.toNat → settlesF l.field (i : Int) (bitsL (ofBits (settleF l.field))) = true) ∧
    ∀ m : Nat, m < 2 ^ l.field.rows.toNat → proveSettleB l (bitsL m) = eachTo l.field (bitsL m) l.field.weeders.toNat ∧ (proveSettleB l (bitsL m) = true → shorter (bitsL m) (settleF l.field) = false) := by
  have hS := (faultW_sound h).1
  obtain ⟨g1, g2, g3, g4⟩ := settleF_spec l.field
  refine ⟨g3, ?_, ofBits_lt g3, fun i hi => ?_, fun m hm => ⟨?_, fun hp => ?_⟩⟩
  · unfold proveSettleB
    rw [settlesLB_eq hS g3, g2, h]
    rfl
  · rw [bits_ofBits g3]
    exact settlesAll_iff.1 g2 i hi
  · unfold proveSettleB
    rw [h]
    rfl
  · unfold proveSettleB at hp
    rw [Bool.and_eq_true, settlesLB_eq hS (bits_inc m _ hm)] at hp
    exact g4 _ (bits_inc m _ hm) hp.2

set_option maxHeartbeats 8000000 in
theorem WageSettled_any (l : LedgerD) (tv nv : Value) (tr : Nat) (w : World) (ht : TalliesAt w tv l.field.tallies) (hn : TriplesAt w nv l.notes) (htr : (tr : Int) ≤ 255) :
    Calls Tryz.prog 9 #[lv l tv nv, .int .u8 tr] w (PV (.bool true) w) := by
  have HA := Lib.hid (And.intro ht hn)
  have HR := Lib.hid (ready_any l tv nv (w.alloc (.cells (lcells l tv nv) 30)) (ht.alloc _) (hn.alloc _))
  obtain ⟨on, cn, rfl⟩ := hn.open
  clear ht hn
  obtain ⟨rd, hrd⟩ : ∃ rd, readyL l = rd := ⟨_, rfl⟩
  rw [hrd] at HR
  have HRD := Lib.hid hrd
  clear hrd
  go_enter Tryz.func9, Tryz.ntmps9
  go_wp2_with fail
  refine HR.out.mono ?_
  rintro e W1 ⟨rfl, hb⟩
  have hk0 := (hb.block w.heap.size (by simp)).trans (heap_new0 w (.cells (lcells l tv (.slice on l.notes.length cn)) 30))
  have HB1 := Lib.hid (And.intro (show Below w.heap.size w W1 from (by repeat (first | exact Below.refl _ _ | assumption | refine bgo ?_ (by assumption) | refine bgoAlloc ?_ _ | refine bgoDrew ?_ | refine bgoSet ?_ (by simp; omega) _))) hk0)
  obtain ⟨c0, f0, l0⟩ := cells_of_block hk0
  clear hb hk0
  cases rd
  · clear c0 f0 l0
    go_wp2_with fail
    refine (awake_any _).mono ?_
    rintro e W2 ⟨rfl, hb⟩
    have HB2 := Lib.hid (bgo HB1.out.1 hb)
    clear hb
    go_wp2_with fail
    go_returns
    exact ⟨by simp, HB2.out⟩
  obtain ⟨hz, hS, ht5, hn5, _, _⟩ := readyL_facts HRD.out
  have hw0 := (soundF_of hS.field).weed0
  have hw3 := (soundF_of hS.field).weed1
  have HM := Lib.hid (And.intro hz (And.intro hS (And.intro ht5 (And.intro hn5 (And.intro hw0 hw3)))))
  clear hz hS ht5 hw0 hw3
  have HK1 := Lib.hid (Keeps.one HB1.out.1 HB1.out.2)
  have hS := HM.out.2.1
  have hF := soundF_of hS.field
  have HF := Lib.hid hF
  obtain ⟨p1, p2, p3, p4, p5⟩ := settled_plain HM.out.1
  obtain ⟨R, hR⟩ : ∃ R : Nat, l.field.rows = R := ⟨l.field.rows.toNat, by have := hF.rows0; omega⟩
  have hRt : l.field.rows.toNat = R := by omega
  have hR7 : R ≤ 7 := by have := hF.rows1; omega
  obtain ⟨hp1, hp2⟩ := pow_bd hR7
  have h2R : 2 ^ R ≤ 2 ^ 7 := Nat.pow_le_pow_right (by omega) hR7
  have h1R := Nat.one_le_two_pow (n := R)
  have hand := and_natG tr (2 ^ R - 1) (by omega) (by omega)
  have hml : tr &&& (2 ^ R - 1) ≤ 2 ^ R - 1 := Nat.and_le_right
  rw [← pow_castK] at hand
  obtain ⟨m, hm⟩ : ∃ m, tr &&& (2 ^ R - 1) = m := ⟨_, rfl⟩
  rw [hm] at hand hml
  rw [hRt] at p3
  obtain ⟨p6, p7⟩ := p5 m (by rw [hRt]; omega)
  obtain ⟨n, hnw⟩ : ∃ n : Nat, l.field.weeders = n := ⟨l.field.weeders.toNat, by have := hF.weed0; omega⟩
  have hn3 : n ≤ 3 := by have := hF.weed1; omega
  have HNW := Lib.hid hnw
  have hwt : l.field.weeders.toNat = n := by omega
  rw [hwt] at p4 p6
  obtain ⟨X, hX⟩ : ∃ X, settleF l.field = X := ⟨_, rfl⟩
  rw [hX] at p1 p2 p3 p4 p7
  have hxl7 : X.length ≤ 7 := by have := p1.len; omega
  obtain ⟨is, his⟩ : ∃ is, proveSettleB l (bitsL m) = is := ⟨_, rfl⟩
  rw [his] at p6 p7
  have hm127 : m ≤ 127 := by omega
  have hob : ofBits X ≤ 127 := by omega
  obtain ⟨ob, hobx⟩ : ∃ ob, ofBits X = ob := ⟨_, rfl⟩
  rw [hobx] at p3 p4 hob
  have HP := Lib.hid (And.intro p1 (And.intro p2 (And.intro p4 (And.intro p6 (And.intro p7 (And.intro hX (And.intro his hobx)))))))
  have HISR := Lib.hid (fun (W : World) (lv' : Value) (h : IntsAt W lv' X) => rIsRows_any l.field (by have := hF.rows0; omega) (by have := hF.rows1; omega) tv lv' X p1 W h)
  rw [hobx] at HISR
  have HSE := Lib.hid (fun (W : World) (ev : Value) (es : List LE) (i : Nat) (h : ListsAt W ev es) (he : es.map (·.2) = rtruths l.field) (hi : i ≤ 1000) => wSettles_any hF ev es i ob W h he (by rw [hRt]; exact p3) hi)
  have HBT := Lib.hid (fun (W : World) => rBits_any m 7 W (by omega) (by omega))
  have HRR := Lib.hid hR
  have HOB := Lib.hid hob
  have HPW := Lib.hid (And.intro hp1 (And.intro hp2 hand))
  clear hS hF p1 p2 p3 p4 p5 p6 p7 hX his hobx hnw hwt hRt hm hml h2R h1R hp1 hp2 hand hR hob
  go_wp2_with fail
  refine (Ledger_any (l) (tv) (.slice on l.notes.length cn) W1 (HA.out.1.below HK1.out.below (Nat.le_refl _)) (HA.out.2.below HK1.out.below (Nat.le_refl _)) (by have := HM.out.2.2.1; omega) (by have := HM.out.2.2.2.1; omega)).mono ?_
  rintro e W2 ⟨a2, b2, rfl, ht2, hn2, hb⟩
  have HL2 := Lib.hid (And.intro ht2 hn2)
  clear ht2 hn2
  have HK2 := Lib.hid (HK1.out.next hb)
  clear hb
  (try clear c0 f0)
  obtain ⟨c0, f0, l0⟩ := cells_of_block HK2.out.blk
  go_wp2_with fail
  refine (Settle_any l a2 b2 W2 HL2.out.1 HL2.out.2).mono ?_
  rintro e W3 ⟨hb, ⟨hne, _⟩ | ⟨_, u3, rfl, hu3⟩⟩
  · exact absurd HM.out.1 hne
  rw [HP.out.2.2.2.2.2.1] at hu3
  obtain ⟨uo3, uc3, rfl⟩ := hu3.open
  have HU3 := Lib.hid hu3
  clear hu3
  have HK3 := Lib.hid (HK2.out.next hb)
  clear hb
  (try clear c0 f0)
  obtain ⟨c0, f0, l0⟩ := cells_of_block HK3.out.blk
  have HK3 := Lib.hid (HK3.out.add (T := fun W => IntsAt W (.slice uo3 X.length uc3) X) HU3.out (last_at HU3.out))
  go_wp2_with fail
  refine (rTruths_any l.field HF.out tv W3 (HA.out.1.below HK3.out.below (Nat.le_refl _))).mono ?_
  rintro e W4 ⟨ev, es, rfl, hes, hmap, hb⟩
  obtain ⟨eo, ec, rfl⟩ := hes.1.open
  have HES := Lib.hid (And.intro hes hmap)
  have hel := hes.1.len
  clear hes hmap
  have HK4 := Lib.hid (HK3.out.next hb)
  clear hb
  (try clear c0 f0)
  obtain ⟨c0, f0, l0⟩ := cells_of_block HK4.out.blk
  have HK4 := Lib.hid (HK4.out.add (T := fun W => ListsAt W (.slice eo es.length ec) es) HES.out.1 (last_lists HES.out.1))
  go_wp2_with fail
  refine (HISR.out W4 (.slice uo3 X.length uc3) HK4.out.is.2.1).mono ?_
  rintro e W5 ⟨rfl, hb⟩
  have HK5 := Lib.hid (HK4.out.next hb)
  clear hb
  (try clear c0 f0)
  obtain ⟨c0, f0, l0⟩ := cells_of_block HK5.out.blk
  have hrr := HRR.out
  obtain ⟨hp1, hp2, hand⟩ := HPW.out
  go_upto_region 7 with (fail)
  clear hrr hp1 hp2 hand
  go_wp2_with fail
  refine (Ledger_any (l) (tv) (.slice on l.notes.length cn) W5 (HA.out.1.below HK5.out.below (Nat.le_refl _)) (HA.out.2.below HK5.out.below (Nat.le_refl _)) (by have := HM.out.2.2.1; omega) (by have := HM.out.2.2.2.1; omega)).mono ?_
  rintro e W6 ⟨a6, b6, rfl, ht6, hn6, hb⟩
  have HL6 := Lib.hid (And.intro ht6 hn6)
  clear ht6 hn6
  have HK6 := Lib.hid (HK5.out.next hb)
  clear hb
  (try clear c0 f0)
  obtain ⟨c0, f0, l0⟩ := cells_of_block HK6.out.blk
  go_wp2_with fail
  refine (HBT.out W6).mono ?_
  rintro e W7 ⟨v7, rfl, hv7, hb⟩
  obtain ⟨uo7, uc7, rfl⟩ := hv7.open
  have HPS := Lib.hid (ProveSettle_any l a6 b6 (.slice uo7 (bitsL m).length uc7) (bitsL m) W7 (HL6.out.1.below hb (Nat.le_refl _)) (HL6.out.2.below hb (Nat.le_refl _)) hv7)
  rw [HP.out.2.2.2.2.2.2.1] at HPS
  clear hv7
  have HK7 := Lib.hid (HK6.out.next hb)
  clear hb
  (try clear c0 f0)
  obtain ⟨c0, f0, l0⟩ := cells_of_block HK7.out.blk
  go_wp2_with fail
  refine HPS.out.mono ?_
  rintro e W8 ⟨rfl, hb⟩
  clear HPS
  have HK8 := Lib.hid (HK7.out.next hb)
  clear hb
  (try clear c0 f0)
  obtain ⟨c0, f0, l0⟩ := cells_of_block HK8.out.blk
  go_wp2_with fail
  refine (Ledger_any (l) (tv) (.slice on l.notes.length cn) W8 (HA.out.1.below HK8.out.below (Nat.le_refl _)) (HA.out.2.below HK8.out.below (Nat.le_refl _)) (by have := HM.out.2.2.1; omega) (by have := HM.out.2.2.2.1; omega)).mono ?_
  rintro e W9 ⟨a9, b9, rfl, ht9, hn9, hb⟩
  have HL9 := Lib.hid (And.intro ht9 hn9)
  clear ht9 hn9
  have HK9 := Lib.hid (HK8.out.next hb)
  clear hb
  (try clear c0 f0)
  obtain ⟨c0, f0, l0⟩ := cells_of_block HK9.out.blk
  go_wp2_with fail
  refine (list_any X (.slice uo3 X.length uc3) W9 HK9.out.is.2.1 (by omega)).mono ?_
  rintro e W10 ⟨v10, rfl, ho10, hb⟩
  obtain ⟨uo10, uc10, rfl⟩ := owns_slice ho10
  have HPS := Lib.hid (ProveSettle_any l a9 b9 (.slice uo10 X.length uc10) X W10 (HL9.out.1.below hb (Nat.le_refl _)) (HL9.out.2.below hb (Nat.le_refl _)) (SlAt.of_owns ho10))
  rw [HP.out.2.1] at HPS
  clear ho10
  have HK10 := Lib.hid (HK9.out.next hb)
  clear hb
  (try clear c0 f0)
  obtain ⟨c0, f0, l0⟩ := cells_of_block HK10.out.blk
  go_wp2_with fail
  refine HPS.out.mono ?_
  rintro e W11 ⟨rfl, hb⟩
  clear HPS
  have HK11 := Lib.hid (HK10.out.next hb)
  clear hb
  (try clear c0 f0)
  obtain ⟨c0, f0, l0⟩ := cells_of_block HK11.out.blk
  cases is
  · skip
    go_wp2_with fail
    clear c0 f0
    go_loopw [12, 13] (fun v12 u wr => ∃ k : Nat, k ≤ n ∧ u = .int .i64 k ∧ v12 = .bool (eachTo l.field (bitsL m) k) ∧ Below W11.heap.size W11 wr) (fun _ u _ => n - (intOf u).toNat)
    case atStart => exact ⟨0, Nat.zero_le _, rfl, rfl, Below.refl _ _⟩
    case round =>
      obtain ⟨k, hk, rfl, rfl, hB⟩ := hrel
      have HKR := Lib.hid ((HK11.out.next hB).add (T := fun W => Below W11.heap.size W11 W) hB (fun W' h => bgo hB h))
      obtain ⟨c0, f0, l0'⟩ := cells_of_block HKR.out.blk
      clear hB
      by_cases hlt : k < n
      · have hltI : (k : Int) < l.field.weeders := by have := HNW.out; omega
        have HEA := Lib.hid (eachTo_succ l.field (bitsL m) k)
        obtain ⟨c, hc⟩ : ∃ c, eachTo l.field (bitsL m) k = c := ⟨_, rfl⟩
        rw [hc] at HEA ⊢
        clear hc
        cases c
        · have HEV := Lib.hid (show eachTo l.field (bitsL m) (k + 1) = false from by rw [HEA.out]; rfl)
          have HS2 := Lib.hid (HSE.out wr (.slice eo es.length ec) es k HKR.out.is.2.1 HES.out.2 (by omega))
          rw [HP.out.2.2.1 k hlt] at HS2
          go_wp2_with fail
          refine HS2.out.mono ?_
          rintro e Wb ⟨rfl, hb⟩
          have HKB := Lib.hid (HKR.out.next hb)
          clear hb c0 f0
          go_wp2_with fail
          go_roundw
          case rel => exact ⟨k + 1, by omega, by go_num, by rw [HEV.out], HKB.out.is.1⟩
          case measure => simp [intOf]; omega
        · go_wp2_with fail
          refine (rField_any l.field tv wr (HA.out.1.below HKR.out.below (Nat.le_refl _)) (by have := HM.out.2.2.1; omega)).mono ?_
          rintro e Wa ⟨av, rfl, hta, hb⟩
          have HKA := Lib.hid ((HKR.out.next hb).add (T := fun W => TalliesAt W av l.field.tallies) hta (last_at hta))
          clear hb hta c0 f0
          go_wp2_with fail
          refine (HBT.out Wa).mono ?_
          rintro e Wc ⟨vc, rfl, hvc, hb⟩
          obtain ⟨uoc, ucc, rfl⟩ := hvc.open
          have HKC := Lib.hid ((HKA.out.next hb).add (T := fun W => IntsAt W (.slice uoc (bitsL m).length ucc) (bitsL m)) hvc (last_at hvc))
          clear hb hvc
          have HPA := Lib.hid (wProveAsk_any l.field av (.slice uoc (bitsL m).length ucc) (k : Int) (bitsL m) Wc HKC.out.is.2.1 HKC.out.is.1 (by have := HNW.out; omega) (by have := HNW.out; omega))
          obtain ⟨pb, hpb⟩ : ∃ pb, proveAskB l.field (k : Int) (bitsL m) = pb := ⟨_, rfl⟩
          rw [hpb] at HPA HEA
          clear hpb
          go_wp2_with fail
          refine HPA.out.mono ?_
          rintro e Wd ⟨rfl, hb⟩
          have HKD := Lib.hid (HKC.out.next hb)
          clear hb
          have HEV := Lib.hid (show eachTo l.field (bitsL m) (k + 1) = pb from by rw [HEA.out]; simp)
          have HS2 := Lib.hid (HSE.out Wd (.slice eo es.length ec) es k HKD.out.is.2.2.2.1 HES.out.2 (by omega))
          rw [HP.out.2.2.1 k hlt] at HS2
          go_wp2_with fail
          refine HS2.out.mono ?_
          rintro e Wb ⟨rfl, hb⟩
          have HKB := Lib.hid (HKD.out.next hb)
          clear hb
          go_wp2_with fail
          go_roundw
          case rel => exact ⟨k + 1, by omega, by go_num, by rw [HEV.out], HKB.out.is.2.2.1⟩
          case measure => simp [intOf]; omega
      · have hnl : ¬ (k : Int) < l.field.weeders := by have := HNW.out; omega
        have hkn : k = n := by omega
        subst hkn
        rw [← HP.out.2.2.2.1]
        go_wp2_with fail
        refine (awake_any _).mono ?_
        rintro e Wz ⟨rfl, hb⟩
        have HBZ := Lib.hid (bgo HKR.out.below hb)
        clear hb c0 f0
        go_wp2_with fail
        go_returns
        exact ⟨by simp, HBZ.out⟩
  · go_wp2_with fail
    refine (HBT.out W11).mono ?_
    rintro e W12 ⟨v12, rfl, hv12, hb⟩
    obtain ⟨uo12, uc12, rfl⟩ := hv12.open
    have HV12 := Lib.hid hv12
    clear hv12
    have HK12 := Lib.hid (HK11.out.next hb)
    clear hb
    (try clear c0 f0)
    obtain ⟨c0, f0, l0⟩ := cells_of_block HK12.out.blk
    have HSH := Lib.hid (Shorter_any _ _ _ _ W12 HV12.out HK12.out.is.2.1)
    rw [HP.out.2.2.2.2.1 (by trivial)] at HSH
    go_wp2_with fail
    refine HSH.out.mono ?_
    rintro e W13 ⟨rfl, hb⟩
    have HK13 := Lib.hid (HK12.out.next hb)
    clear hb
    (try clear c0 f0)
    obtain ⟨c0, f0, l0⟩ := cells_of_block HK13.out.blk
    go_wp2_with fail
    clear c0 f0
    go_loopw [12, 13] (fun v12 u wr => ∃ k : Nat, k ≤ n ∧ u = .int .i64 k ∧ v12 = .bool (eachTo l.field (bitsL m) k) ∧ Below W13.heap.size W13 wr) (fun _ u _ => n - (intOf u).toNat)
    case atStart => exact ⟨0, Nat.zero_le _, rfl, rfl, Below.refl _ _⟩
    case round =>
      obtain ⟨k, hk, rfl, rfl, hB⟩ := hrel
      have HKR := Lib.hid ((HK13.out.next hB).add (T := fun W => Below W13.heap.size W13 W) hB (fun W' h => bgo hB h))
      obtain ⟨c0, f0, l0'⟩ := cells_of_block HKR.out.blk
      clear hB
      by_cases hlt : k < n
      · have hltI : (k : Int) < l.field.weeders := by have := HNW.out; omega
        have HEA := Lib.hid (eachTo_succ l.field (bitsL m) k)
        obtain ⟨c, hc⟩ : ∃ c, eachTo l.field (bitsL m) k = c := ⟨_, rfl⟩
        rw [hc] at HEA ⊢
        clear hc
        cases c
        · have HEV := Lib.hid (show eachTo l.field (bitsL m) (k + 1) = false from by rw [HEA.out]; rfl)
          have HS2 := Lib.hid (HSE.out wr (.slice eo es.length ec) es k HKR.out.is.2.1 HES.out.2 (by omega))
          rw [HP.out.2.2.1 k hlt] at HS2
          go_wp2_with fail
          refine HS2.out.mono ?_
          rintro e Wb ⟨rfl, hb⟩
          have HKB := Lib.hid (HKR.out.next hb)
          clear hb c0 f0
          go_wp2_with fail
          go_roundw
          case rel => exact ⟨k + 1, by omega, by go_num, by rw [HEV.out], HKB.out.is.1⟩
          case measure => simp [intOf]; omega
        · go_wp2_with fail
          refine (rField_any l.field tv wr (HA.out.1.below HKR.out.below (Nat.le_refl _)) (by have := HM.out.2.2.1; omega)).mono ?_
          rintro e Wa ⟨av, rfl, hta, hb⟩
          have HKA := Lib.hid ((HKR.out.next hb).add (T := fun W => TalliesAt W av l.field.tallies) hta (last_at hta))
          clear hb hta c0 f0
          go_wp2_with fail
          refine (HBT.out Wa).mono ?_
          rintro e Wc ⟨vc, rfl, hvc, hb⟩
          obtain ⟨uoc, ucc, rfl⟩ := hvc.open
          have HKC := Lib.hid ((HKA.out.next hb).add (T := fun W => IntsAt W (.slice uoc (bitsL m).length ucc) (bitsL m)) hvc (last_at hvc))
          clear hb hvc
          have HPA := Lib.hid (wProveAsk_any l.field av (.slice uoc (bitsL m).length ucc) (k : Int) (bitsL m) Wc HKC.out.is.2.1 HKC.out.is.1 (by have := HNW.out; omega) (by have := HNW.out; omega))
          obtain ⟨pb, hpb⟩ : ∃ pb, proveAskB l.field (k : Int) (bitsL m) = pb := ⟨_, rfl⟩
          rw [hpb] at HPA HEA
          clear hpb
          go_wp2_with fail
          refine HPA.out.mono ?_
          rintro e Wd ⟨rfl, hb⟩
          have HKD := Lib.hid (HKC.out.next hb)
          clear hb
          have HEV := Lib.hid (show eachTo l.field (bitsL m) (k + 1) = pb from by rw [HEA.out]; simp)
          have HS2 := Lib.hid (HSE.out Wd (.slice eo es.length ec) es k HKD.out.is.2.2.2.1 HES.out.2 (by omega))
          rw [HP.out.2.2.1 k hlt] at HS2
          go_wp2_with fail
          refine HS2.out.mono ?_
          rintro e Wb ⟨rfl, hb⟩
          have HKB := Lib.hid (HKD.out.next hb)
          clear hb
          go_wp2_with fail
          go_roundw
          case rel => exact ⟨k + 1, by omega, by go_num, by rw [HEV.out], HKB.out.is.2.2.1⟩
          case measure => simp [intOf]; omega
      · have hnl : ¬ (k : Int) < l.field.weeders := by have := HNW.out; omega
        have hkn : k = n := by omega
        subst hkn
        rw [← HP.out.2.2.2.1]
        go_wp2_with fail
        refine (awake_any _).mono ?_
        rintro e Wz ⟨rfl, hb⟩
        have HBZ := Lib.hid (bgo HKR.out.below hb)
        clear hb c0 f0
        go_wp2_with fail
        go_returns
        exact ⟨by simp, HBZ.out⟩
end Go.Proofs.YtdjgikcnmokjkaaGreat
