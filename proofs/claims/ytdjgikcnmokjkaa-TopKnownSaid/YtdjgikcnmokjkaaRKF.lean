/-
  The walk of TopKnown: the mixed list is no truth.
-/
import Derived.WalkKit
import Derived.WalkLawsBesides
import Derived.WalkSpells
import Derived.Outline
import Derived.Handy
import Derived.KernelRfl
import Derived.Lib.Hide
import Derived.Deep.Cut
import Derived.Test.YtdjgikcnmokjkaaRK
namespace Go.Proofs.Ytdjgikcnmokjkaa
open Go.RowKit Go.RG Go.SL Go.Shelf Cou Go.TB
set_option maxHeartbeats 400000
set_option maxRecDepth 10000

set_option maxHeartbeats 16000000 in
theorem TopKnown_false (f : FieldD) (tv : Value) (r8 wh ot : Int) (w : World) (ht : TalliesAt w tv f.tallies) (h0 : 0 ≤ r8 ∧ r8 ≤ 255) (h1 : 0 ≤ wh ∧ wh ≤ 65535) (h2 : 0 ≤ ot ∧ ot ≤ 65535) (hth : thinF f = true) (hf0 : faultF f = 0) (hts0 : truthsF f [] ≠ []) (hisb : proveTruthB f (mixL (settleF f) ((rtruths f).getD (wh % (rtruths f).length).toNat []) ((rtruths f).getD (ot % (rtruths f).length).toNat []) (settleF f).length) = false) :
    Calls Try.prog 3 #[fv f tv, .int .u8 r8, .int .u16 wh, .int .u16 ot] w (PV (.bool true) w) := by
  obtain ⟨to, tc, rfl⟩ := ht.open
  have HT := Lib.hid ht
  clear ht
  have HB0 := Lib.hid (show Below w.heap.size w (w.alloc (.cells #[iv f.rows, iv f.weeders, iv f.left.1, iv f.left.2, .slice to f.tallies.length tc] 26)) from bgoAlloc (Below.refl _ _) _)
  have HK0 := Lib.hid (heap_new0 w (.cells #[iv f.rows, iv f.weeders, iv f.left.1, iv f.left.2, .slice to f.tallies.length tc] 26))
  have HISB := Lib.hid hisb
  clear hisb
  have HTH := Lib.hid hth
  have HF0 := Lib.hid hf0
  have hS := soundF_of hf0
  have HS := Lib.hid hS
  obtain ⟨R, hR, hR1, hR2⟩ := rates_bd r8
  have hl5 := hS.tals
  have hw0 := hS.weed0
  have hw1 := hS.weed1
  clear hth hf0 hS
  go_enter Try.func3, Try.ntmps3
  go_wp2_with fail
  refine (rThin_any f _ _ (HT.out.below HB0.out (Nat.le_refl _))).mono ?_
  rw [HTH.out]
  rintro e W1 ⟨rfl, hb⟩
  have HB1 := Lib.hid (bgo HB0.out hb)
  have HK1 := Lib.hid ((hb.block _ (cells_of_block HK0.out).2.2).trans HK0.out)
  (try clear hc hf hl)
  obtain ⟨hc, hf, hl⟩ := cells_of_block HK1.out
  clear hb
  go_wp2_with fail
  refine (rFault_any f _ _ (HT.out.below HB1.out (Nat.le_refl _))).mono ?_
  rw [HF0.out]
  rintro e W2 ⟨rfl, hb⟩
  have HB2 := Lib.hid (bgo HB1.out hb)
  have HK2 := Lib.hid ((hb.block _ (cells_of_block HK1.out).2.2).trans HK1.out)
  (try clear hc hf hl)
  obtain ⟨hc, hf, hl⟩ := cells_of_block HK2.out
  clear hb
  go_wp2_with fail
  refine (rTruths_any f HS.out _ _ (HT.out.below HB2.out (Nat.le_refl _))).mono ?_
  rintro e W3 ⟨tsv, es, rfl, hts, hes, hb⟩
  obtain ⟨eo, ec, rfl⟩ := hts.1.open
  have HTS := Lib.hid hts
  have HES := Lib.hid hes
  have HB3 := Lib.hid (bgo HB2.out hb)
  have HK3 := Lib.hid ((hb.block _ (cells_of_block HK2.out).2.2).trans HK2.out)
  (try clear hc hf hl)
  obtain ⟨hc, hf, hl⟩ := cells_of_block HK3.out
  clear hb hts hes
  go_wp2_with fail
  refine (rField_any f _ _ (HT.out.below HB3.out (Nat.le_refl _)) (by omega)).mono ?_
  rintro e W4 ⟨tv1, rfl, ht1, hb⟩
  obtain ⟨to1, tc1, rfl⟩ := ht1.open
  have HT1 := Lib.hid ht1
  have HTS4 := Lib.hid (show ListsAt W4 (.slice eo es.length ec) es from ⟨HTS.out.1.below hb (Nat.le_refl _), fun e he => (HTS.out.2 e he).below hb (Nat.le_refl _)⟩)
  have HB4 := Lib.hid (bgo HB3.out hb)
  have HK4 := Lib.hid ((hb.block _ (cells_of_block HK3.out).2.2).trans HK3.out)
  (try clear hc hf hl)
  obtain ⟨hc, hf, hl⟩ := cells_of_block HK4.out
  clear hb ht1
  go_upto_region 5 with (fail)
  refine gworld fun W5 hW5 => ?_
  have hb : Below W4.heap.size W4 W5 := by rw [hW5]; exact (by repeat (first | exact Below.refl _ _ | assumption | refine bgo ?_ (by assumption) | refine bgoAlloc ?_ _ | refine bgoDrew ?_ | refine bgoSet ?_ (by simp; omega) _))
  have hKL : W5.heap[W4.heap.size]? = some (.cells #[iv f.rows, iv f.weeders, iv f.left.1, iv f.left.2, .slice to1 f.tallies.length tc1, iv R, iv 0, iv 2000, .slice none 0 0] 41 (0, 0)) := by
    rw [hW5, ← hR]
    first | exact heap_new0 _ _ | (simp [World.setCell, World.alloc]; done)
  have HR := Lib.hid hR
  have HTS5 := Lib.hid (show ListsAt W5 (.slice eo es.length ec) es from ⟨HTS4.out.1.below hb (Nat.le_refl _), fun e he => (HTS4.out.2 e he).below hb (Nat.le_refl _)⟩)
  have HT5 := Lib.hid (HT1.out.below hb (Nat.le_refl _))
  have HKL5 := Lib.hid hKL
  obtain ⟨lc, lf, ll⟩ := cells_of_block hKL
  have HB5 := Lib.hid (bgo HB4.out hb)
  have HK5 := Lib.hid ((hb.block _ (cells_of_block HK4.out).2.2).trans HK4.out)
  (try clear hc hf hl)
  obtain ⟨hc, hf, hl⟩ := cells_of_block HK5.out
  clear hb hKL hW5 hR
  generalize W4.heap.size = bl at *
  have HSE := Lib.hid (Settle_any (wideL f R) (.slice to1 f.tallies.length tc1) (.slice none 0 0) W5 HT5.out (SlAt.nil 3 W5) (by show -1000 ≤ f.weeders ∧ f.weeders ≤ 1000; omega))
  have hes1 : 1 ≤ es.length := by
    cases es with
    | cons e es => simp
    | nil =>
      obtain ⟨t, htm⟩ := List.exists_mem_of_ne_nil _ hts0
      rw [← mem_rtruths HS.out, ← HES.out] at htm
      cases htm
  have HW := Lib.hid (wide_some HF0.out hts0 hR1 hR2)
  have HA0 := Lib.hid (ask0 HF0.out hts0)
  have HN0 := Lib.hid hts0
  clear hts0
  go_wp2_with fail
  refine HSE.out.mono ?_
  rintro e W6 ⟨hb, ⟨hne, _⟩ | ⟨_, rv, rfl, hr⟩⟩
  · exact absurd HW.out hne
  have HIN := Lib.hid (settleF_spec f).2.2.1
  have hrl : (settleF f).length ≤ 7 := by have := HIN.out.len; have := HS.out.rows1; omega
  have hr1 : IntsAt W6 rv (settleF f) := hr
  clear hr
  obtain ⟨r, hr⟩ : ∃ r, settleF f = r := ⟨_, rfl⟩
  rw [hr] at HIN hrl hr1
  have HR0 := Lib.hid hr
  obtain ⟨ro, rc, rfl⟩ := hr1.open
  have HRR6 := Lib.hid hr1
  have HKL6 := Lib.hid ((hb.block _ (cells_of_block HKL5.out).2.2).trans HKL5.out)
  have HT6 := Lib.hid (HT5.out.below hb (Nat.le_refl _))
  have HTS6 := Lib.hid (show ListsAt W6 (.slice eo es.length ec) es from ⟨HTS5.out.1.below hb (Nat.le_refl _), fun e he => (HTS5.out.2 e he).below hb (Nat.le_refl _)⟩)
  (try clear lc lf ll)
  obtain ⟨lc, lf, ll⟩ := cells_of_block HKL6.out
  have HB6 := Lib.hid (bgo HB5.out hb)
  have HK6 := Lib.hid ((hb.block _ (cells_of_block HK5.out).2.2).trans HK5.out)
  (try clear hc hf hl)
  obtain ⟨hc, hf, hl⟩ := cells_of_block HK6.out
  clear hb hr hr1
  go_wp2_with fail
  refine (rField_any f _ _ (HT.out.below HB6.out (Nat.le_refl _)) (by omega)).mono ?_
  rintro e W7 ⟨tv7, rfl, ht7, hb⟩
  obtain ⟨to7, tc7, rfl⟩ := ht7.open
  have HF7 := Lib.hid ht7
  have HRR7 := Lib.hid (HRR6.out.below hb (Nat.le_refl _))
  have HKL7 := Lib.hid ((hb.block _ (cells_of_block HKL6.out).2.2).trans HKL6.out)
  have HT7 := Lib.hid (HT6.out.below hb (Nat.le_refl _))
  have HTS7 := Lib.hid (show ListsAt W7 (.slice eo es.length ec) es from ⟨HTS6.out.1.below hb (Nat.le_refl _), fun e he => (HTS6.out.2 e he).below hb (Nat.le_refl _)⟩)
  (try clear lc lf ll)
  obtain ⟨lc, lf, ll⟩ := cells_of_block HKL7.out
  have HB7 := Lib.hid (bgo HB6.out hb)
  have HK7 := Lib.hid ((hb.block _ (cells_of_block HK6.out).2.2).trans HK6.out)
  (try clear hc hf hl)
  obtain ⟨hc, hf, hl⟩ := cells_of_block HK7.out
  clear hb ht7
  have HDO := Lib.hid (wDone_any f (.slice to7 f.tallies.length tc7) W7 HF7.out)
  go_wp2_with fail
  refine HDO.out.mono ?_
  rintro e W8 ⟨hb, ⟨hne, _⟩ | ⟨_, dv, rfl, hd⟩⟩
  · exact absurd HA0.out hne
  have hdl : (doneL f).length = f.weeders.toNat := doneL_len f
  obtain ⟨dl, hdl0⟩ : ∃ dl, doneL f = dl := ⟨_, rfl⟩
  rw [hdl0] at hd hdl
  have HD0 := Lib.hid hdl0
  obtain ⟨do_, dc, rfl⟩ := hd.open
  have HDD8 := Lib.hid hd
  have HRR8 := Lib.hid (HRR7.out.below hb (Nat.le_refl _))
  have HKL8 := Lib.hid ((hb.block _ (cells_of_block HKL7.out).2.2).trans HKL7.out)
  have HT8 := Lib.hid (HT7.out.below hb (Nat.le_refl _))
  have HTS8 := Lib.hid (show ListsAt W8 (.slice eo es.length ec) es from ⟨HTS7.out.1.below hb (Nat.le_refl _), fun e he => (HTS7.out.2 e he).below hb (Nat.le_refl _)⟩)
  (try clear lc lf ll)
  obtain ⟨lc, lf, ll⟩ := cells_of_block HKL8.out
  have HB8 := Lib.hid (bgo HB7.out hb)
  have HK8 := Lib.hid ((hb.block _ (cells_of_block HK7.out).2.2).trans HK7.out)
  (try clear hc hf hl)
  obtain ⟨hc, hf, hl⟩ := cells_of_block HK8.out
  clear hb hd hdl0
  have HIR := Lib.hid (rIsRows_any f HS.out.rows0 HS.out.rows1 (.slice to f.tallies.length tc) _ _ HIN.out W8 HRR8.out)
  go_wp2_with fail
  refine HIR.out.mono ?_
  rintro e W9 ⟨rfl, hb⟩
  have HRR9 := Lib.hid (HRR8.out.below hb (Nat.le_refl _))
  have HDD9 := Lib.hid (HDD8.out.below hb (Nat.le_refl _))
  have HKL9 := Lib.hid ((hb.block _ (cells_of_block HKL8.out).2.2).trans HKL8.out)
  have HT9 := Lib.hid (HT8.out.below hb (Nat.le_refl _))
  have HTS9 := Lib.hid (show ListsAt W9 (.slice eo es.length ec) es from ⟨HTS8.out.1.below hb (Nat.le_refl _), fun e he => (HTS8.out.2 e he).below hb (Nat.le_refl _)⟩)
  (try clear lc lf ll)
  obtain ⟨lc, lf, ll⟩ := cells_of_block HKL9.out
  have HB9 := Lib.hid (bgo HB8.out hb)
  have HK9 := Lib.hid ((hb.block _ (cells_of_block HK8.out).2.2).trans HK8.out)
  (try clear hc hf hl)
  obtain ⟨hc, hf, hl⟩ := cells_of_block HK9.out
  clear hb
  have hneb : ((dl.length : Int) != f.weeders) = false := by simp; omega
  have HKN := Lib.hid (show KnSt w f (.slice to f.tallies.length tc) bl R (.slice to1 f.tallies.length tc1) (.slice eo es.length ec) es (.slice ro r.length rc) r (.slice do_ dl.length dc) dl W9 from
    ⟨HK9.out, HKL9.out, HTS9.out, HRR9.out, HDD9.out, HT.out.below HB9.out (Nat.le_refl _), HT9.out, HB9.out⟩)
  go_wp2_with fail
  clear hc hf hl lc lf ll hneb HK0 HK1 HK2 HK3 HK4 HK5 HK6 HK7 HK8 HB0 HB1 HB2 HB3 HB4 HB5 HB6 HB7 HB8 HKL5 HKL6 HKL7 HKL8 HTS HTS4 HTS5 HTS6 HTS7 HTS8 HT1 HT5 HT6 HT7 HT8 HRR6 HRR7 HRR8 HDD8 HF7 HSE HDO HIR
  clear HRR9 HDD9 HKL9 HT9 HTS9 HB9 HK9
  have HDLL := Lib.hid hdl
  clear hdl
  obtain ⟨nw, hnw⟩ : ∃ nw : Nat, f.weeders = nw := ⟨f.weeders.toNat, by omega⟩
  have hn3 : nw ≤ 3 := by omega
  have HNW := Lib.hid hnw
  have hnwt : f.weeders.toNat = nw := by omega
  have HNT := Lib.hid hnwt
  clear hnw hnwt
  have hpr : ∀ k : Nat, orTo f k ≤ 127 := fun k => by
    have h1 := orTo_lt (f := f) k
    have h2 : 2 ^ f.rows.toNat ≤ 2 ^ 7 := Nat.pow_le_pow_right (by omega) (by have := HS.out.rows1; omega)
    omega
  have HPR := Lib.hid hpr
  clear hpr
  go_loopw [17, 18] (fun u i wr => ∃ k : Nat, k ≤ nw ∧ i = .int .i64 k ∧ u = .int .i64 ((orTo f k : Nat) : Int) ∧ KnSt w f (.slice to f.tallies.length tc) bl R (.slice to1 f.tallies.length tc1) (.slice eo es.length ec) es (.slice ro r.length rc) r (.slice do_ dl.length dc) dl wr ∧ Below W9.heap.size W9 wr) (fun _ i _ => nw - (intOf i).toNat)
  case atStart => exact ⟨0, Nat.zero_le _, rfl, rfl, HKN.out, Below.refl _ _⟩
  case round =>
    obtain ⟨k, hk, rfl, rfl, hst, hB⟩ := hrel
    have HST := Lib.hid hst
    have HB := Lib.hid hB
    obtain ⟨hc, hf, hl⟩ := cells_of_block hst.b0
    clear hst hB
    by_cases hlt : k < nw
    · have hltI : (k : Int) < f.weeders := by have := HNW.out; omega
      go_wp2_with fail
      refine (rField_any f _ _ HST.out.tal (by omega)).mono ?_
      rintro e X1 ⟨tv2, rfl, ht2, hb⟩
      obtain ⟨to2, tc2, rfl⟩ := ht2.open
      have HF2 := Lib.hid ht2
      have HS1 := Lib.hid (HST.out.next hb)
      have HB1 := Lib.hid (bgo HB.out hb)
      clear hb ht2 hc hf hl
      obtain ⟨hc, hf, hl⟩ := cells_of_block HS1.out.b0
      have HAK := Lib.hid (wAsk_any f (.slice to2 f.tallies.length tc2) (k : Int) X1 HF2.out (by omega) (by omega))
      have HAE := Lib.hid (show askFErr f (inB (k : Int) 0 (f.weeders - 1)) = 0 from by rw [askFErr_in hltI]; exact HA0.out)
      go_wp2_with fail
      refine HAK.out.mono ?_
      rintro e X2 ⟨hb, ⟨hne, _⟩ | ⟨_, av, rfl, hav⟩⟩
      · exact absurd HAE.out hne
      have hai := (askF_spec f (k : Int)).2.2.1
      have hal := ask_le f (i := k) (by have := HNT.out; omega)
      rw [HR0.out] at hal
      have hor := or_nat (orTo f k) (ofBits (askF f (k : Int))) (by have := HPR.out k; omega) (by
        have h1 := ofBits_lt hai
        have h2 : 2 ^ f.rows.toNat ≤ 2 ^ 7 := Nat.pow_le_pow_right (by omega) (by have := HS.out.rows1; omega)
        omega)
      have hosu : orTo f (k + 1) = orTo f k ||| ofBits (askF f (k : Int)) := rfl
      have HOS := Lib.hid hosu
      generalize askF f (k : Int) = ask at *
      obtain ⟨ao, ac, rfl⟩ := hav.open
      have hpk := HPR.out (k + 1)
      rw [HOS.out] at hpk
      have hpk0 := HPR.out k
      have hob : ofBits ask ≤ 127 := by
        have h1 := ofBits_lt hai
        have h2 : 2 ^ f.rows.toNat ≤ 2 ^ 7 := Nat.pow_le_pow_right (by omega) (by have := HS.out.rows1; omega)
        omega
      have HS2 := Lib.hid (HS1.out.next hb)
      have HB2 := Lib.hid (bgo HB1.out hb)
      have HIR := Lib.hid (rIsRows_any f HS.out.rows0 HS.out.rows1 (.slice to f.tallies.length tc) _ _ hai X2 hav)
      have HAV := Lib.hid hav
      clear hb hav hc hf hl hai hosu
      obtain ⟨hc, hf, hl⟩ := cells_of_block HS2.out.b0
      generalize orTo f k = o1 at *
      generalize ofBits ask = o3 at *
      go_wp2_with fail
      refine HIR.out.mono ?_
      rintro e X3 ⟨rfl, hb⟩
      have HS3 := Lib.hid (HS2.out.next hb)
      have HB3 := Lib.hid (bgo HB2.out hb)
      clear hb hc hf hl
      obtain ⟨hc, hf, hl⟩ := cells_of_block HS3.out.b0
      have hgt : ¬ (r.length : Int) < ask.length := by omega
      go_wp2_with fail
      refine (rField_any f _ _ HS3.out.tal (by omega)).mono ?_
      rintro e X4 ⟨tv4, rfl, ht4, hb⟩
      obtain ⟨to4, tc4, rfl⟩ := ht4.open
      have HF4 := Lib.hid ht4
      have HS4 := Lib.hid (HS3.out.next hb)
      have HB4 := Lib.hid (bgo HB3.out hb)
      clear hb ht4 hc hf hl
      obtain ⟨hc, hf, hl⟩ := cells_of_block HS4.out.b0
      go_wp2_with (at_builtin; go_loud (refine wpList_copy (by first | rfl | (simp [Region.wanted, yielded]; done) | (simp [Region.wanted, yielded]; omega)) _ _ rfl rfl (heap_new0 X4 (.cells #[] 3)) r _ rfl (HS4.out.rr.below ((Below.refl X4.heap.size X4).alloc (Nat.le_refl _) _) (Nat.le_refl _)) (by omega) ?_))
      intro po pc X5 hpo hpb
      have hb5 : Below X4.heap.size X4 X5 := ((Below.refl X4.heap.size X4).alloc (Nat.le_refl _) _).trans hpb
      have HS5 := Lib.hid (HS4.out.next hb5)
      have HB5 := Lib.hid (bgo HB4.out hb5)
      have HPA := Lib.hid (wProveAsk_any f (.slice to4 f.tallies.length tc4) (.slice po r.length pc) (k : Int) r X5 (HF4.out.below hb5 (Nat.le_refl _)) (SlAt.of_owns hpo) (by omega) (by omega))
      rw [show proveAskB f (k : Int) r = true from by rw [← HR0.out]; exact prove_settle HF0.out HN0.out hltI] at HPA
      clear hpo hpb hb5 hc hf hl
      obtain ⟨hc, hf, hl⟩ := cells_of_block HS5.out.b0
      go_wp2_with fail
      refine HPA.out.mono ?_
      rintro e X6 ⟨rfl, hb⟩
      have HS6 := Lib.hid (HS5.out.next hb)
      have HB6 := Lib.hid (bgo HB5.out hb)
      clear hb hc hf hl
      obtain ⟨hc, hf, hl⟩ := cells_of_block HS6.out.b0
      go_wp2_with fail
      go_roundw
      case rel => exact ⟨k + 1, by omega, by go_num, by rw [HOS.out], HS6.out, HB6.out⟩
      case measure => simp [intOf]; omega
    · have hkn : k = nw := by omega
      have hnl : ¬ (k : Int) < f.weeders := by have := HNW.out; omega
      have hsu := settle_union f
      rw [HR0.out, HNT.out, ← hkn] at hsu
      have HBI := Lib.hid (rBits_any (orTo f k) 7 · (by have := HPR.out k; omega) (by omega))
      have hpk := HPR.out k
      generalize orTo f k = o1 at *
      have hbl7 : (bitsL o1).length ≤ 7 := by
        have := bitsL_eq (n := o1) (p := 7) (by omega)
        rw [this]
        exact bitsTo_len _ _
      generalize bitsL o1 = bs at *
      go_wp2_with fail
      refine (HBI.out _).mono ?_
      rintro e Y1 ⟨bv, rfl, hbv, hb⟩
      obtain ⟨bo, bc, rfl⟩ := hbv.open
      have HS1 := Lib.hid (HST.out.next hb)
      have HB1 := Lib.hid (bgo HB.out hb)
      clear hb hbv hc hf hl hkn
      obtain ⟨hc, hf, hl⟩ := cells_of_block HS1.out.b0
      have hgt : ¬ (bs.length : Int) < r.length := by omega
      go_wp2_with fail
      obtain ⟨ka, hka, hkal⟩ : ∃ ka : Nat, wh % (es.length : Int) = ka ∧ ka < es.length := ⟨(wh % (es.length : Int)).toNat, by have := Int.emod_nonneg wh (show (es.length : Int) ≠ 0 by omega); omega, by have := Int.emod_lt_of_pos wh (show (0 : Int) < es.length by omega); have := Int.emod_nonneg wh (show (es.length : Int) ≠ 0 by omega); omega⟩
      obtain ⟨kb, hkb, hkbl⟩ : ∃ kb : Nat, ot % (es.length : Int) = kb ∧ kb < es.length := ⟨(ot % (es.length : Int)).toNat, by have := Int.emod_nonneg ot (show (es.length : Int) ≠ 0 by omega); omega, by have := Int.emod_lt_of_pos ot (show (0 : Int) < es.length by omega); have := Int.emod_nonneg ot (show (es.length : Int) ≠ 0 by omega); omega⟩
      obtain ⟨eb, eoff, hev, heb, d1⟩ := ListsAt.cell HS1.out.ts.1 hkal
      obtain ⟨eb', eoff', hev', _, d2⟩ := ListsAt.cell HS1.out.ts.1 hkbl
      subst hev
      cases hev'
      have hma : es[ka].2 ∈ truthsF f [] := (mem_rtruths HS.out).1 (by rw [← HES.out]; exact List.mem_map.2 ⟨_, List.getElem_mem hkal, rfl⟩)
      have hmb : es[kb].2 ∈ truthsF f [] := (mem_rtruths HS.out).1 (by rw [← HES.out]; exact List.mem_map.2 ⟨_, List.getElem_mem hkbl, rfl⟩)
      have hia := HS1.out.ts.2 _ (List.getElem_mem hkal)
      have hib := HS1.out.ts.2 _ (List.getElem_mem hkbl)
      have hsel := HISB.out
      rw [show (rtruths f).length = es.length from by rw [← HES.out]; simp, hka, hkb, Int.toNat_natCast, Int.toNat_natCast, show (rtruths f).getD ka [] = es[ka].2 from by rw [← HES.out]; simp [List.getD, hkal], show (rtruths f).getD kb [] = es[kb].2 from by rw [← HES.out]; simp [List.getD, hkbl], HR0.out] at hsel
      generalize es[ka] = ea at *
      generalize es[kb] = eb2 at *
      obtain ⟨va, a⟩ := ea
      obtain ⟨vb, b⟩ := eb2
      simp only at hma hmb hia hib d1 d2 hsel
      have HSEL := Lib.hid hsel
      clear hsel
      obtain ⟨ao, ac, rfl⟩ := hia.open
      obtain ⟨bo2, bc2, rfl⟩ := hib.open
      have HMA := Lib.hid (And.intro hma hmb)
      have HIA := Lib.hid (And.intro hia hib)
      have hz : ((es.length : Int) == 0) = false := by rw [beq_eq_false_iff_ne]; omega
      have hz' : ¬ (es.length : Int) = 0 := by omega
      have hkaI : (ka : Int) < es.length := by omega
      have hkbI : (kb : Int) < es.length := by omega
      have hes25 : es.length ≤ 2500 := by
        have h1 : es.length = (rtruths f).length := by rw [← HES.out]; simp
        have h2 : (rtruths f).length ≤ ((f.weeders + 1) ^ f.rows.toNat).toNat := rtruthsTo_len f _
        have h3 := HS.out.many
        omega
      have hesn : ¬ es = [] := fun e => by rw [e] at hes1; simp at hes1
      have hta : wh.tmod (es.length : Int) = (ka : Int) := by rw [Int.tmod_eq_emod_of_nonneg (by omega)]; exact hka
      have htb : ot.tmod (es.length : Int) = (kb : Int) := by rw [Int.tmod_eq_emod_of_nonneg (by omega)]; exact hkb
      clear hma hmb hia hib
      refine wp_region_rg 17 [] none [] (by as_aux_lemma => kernel_rfl) (by as_aux_lemma => kernel_rfl) ?_
      simp only [List.take_succ_cons, List.take_zero, List.drop_succ_cons, List.drop_zero]
      repeat (first | (refine tree_det (by rfl) _ (by rfl) (fun W hW => by go_simp; (try simp (disch := omega) only [IntWalk.i64_in]); try rfl) ?_; simp only [Act.put, List.setIfInBounds_toArray, List.set_cons_succ, List.set_cons_zero]) | (refine tree_skip (by rfl) (by rfl) ?_; simp only [Act.put, List.setIfInBounds_toArray, List.set_cons_succ, List.set_cons_zero]))
      intro Y2 hE hF
      have hb : Below Y1.heap.size Y1 Y2 := Ext.below (show Ext [] Y1 Y2 from hE)
      have HS2 := Lib.hid (HS1.out.next hb)
      have HB2 := Lib.hid (bgo HB1.out hb)
      have HIA2 := Lib.hid (And.intro (HIA.out.1.below hb (Nat.le_refl _)) (HIA.out.2.below hb (Nat.le_refl _)))
      clear hb hE hF hc hf hl d1 d2 heb hta htb hka hkb hz hz' hesn
      obtain ⟨hc, hf, hl⟩ := cells_of_block HS2.out.b0
      have hal : a.length ≤ 7 := by rw [truthsF_len HMA.out.1]; have := HS.out.rows1; omega
      have hbl : b.length ≤ 7 := by rw [truthsF_len HMA.out.2]; have := HS.out.rows1; omega
      go_wp2_with (at_builtin; refine wpList_copy (by first | rfl | (simp [Region.wanted, yielded]; done) | (simp [Region.wanted, yielded]; omega)) _ _ rfl rfl (heap_new0 Y2 (.cells #[] 3)) b _ rfl (HIA2.out.2.below ((Below.refl Y2.heap.size Y2).alloc (Nat.le_refl _) _) (Nat.le_refl _)) (by omega) ?_)
      intro mo mc Y3 hmo hmb
      have hb3 : Below Y2.heap.size Y2 Y3 := ((Below.refl Y2.heap.size Y2).alloc (Nat.le_refl _) _).trans hmb
      have HS3 := Lib.hid (HS2.out.next hb3)
      have HB3 := Lib.hid (bgo HB2.out hb3)
      have HIA3 := Lib.hid (And.intro (HIA2.out.1.below hb3 (Nat.le_refl _)) (HIA2.out.2.below hb3 (Nat.le_refl _)))
      have HMO := Lib.hid (And.intro hmo (And.intro hmb hb3))
      clear hmo hmb hb3 hc hf hl
      obtain ⟨hc, hf, hl⟩ := cells_of_block HS3.out.b0
      go_wp2_with fail
      have hbl0 : b.length = f.rows.toNat := truthsF_len HMA.out.2
      have hal0 : a.length = f.rows.toNat := truthsF_len HMA.out.1
      have hr1 := HS.out.rows0
      obtain ⟨nr, hnr⟩ : ∃ nr : Nat, f.rows.toNat = nr := ⟨_, rfl⟩
      have hnr1 : 1 ≤ nr := by omega
      have hnr7 : nr ≤ 7 := by omega
      rw [hnr] at hbl0 hal0
      have HNR := Lib.hid hnr
      obtain ⟨gm, gc, hmv, hgm⟩ : ∃ gm gc, (Value.slice mo b.length mc) = .slice (some ⟨gm, 0, none⟩) b.length gc ∧ Y2.heap.size ≤ gm := by
        obtain ⟨_, ⟨h2, h3⟩ | ⟨g', cap, cur, h2, hb', _⟩⟩ := HMO.out.1
        · omega
        · exact ⟨g', cap, h2, hb'⟩
      obtain ⟨rfl, rfl⟩ : mo = some ⟨gm, 0, none⟩ ∧ mc = gc := by cases hmv; exact ⟨rfl, rfl⟩
      have HLN := Lib.hid (And.intro hbl0 hal0)
      have hgmn : ¬ gm = w.heap.size := by have := (cells_of_block HS2.out.b0).2.2; omega
      clear hmv hnr hbl0 hal0 hc hf hl HIA3
      go_loopw [26] (fun u wr => ∃ i : Nat, i ≤ r.length ∧ u = .int .i64 i ∧ wr.ownsRow Y2.heap.size 3 1 (.slice (some ⟨gm, 0, none⟩) b.length mc) b.length (intCells (mixL r a b i)) ∧ Below Y2.heap.size Y2 wr) (fun u _ => r.length - (intOf u).toNat)
      case atStart => exact ⟨0, Nat.zero_le _, rfl, HMO.out.1, HMO.out.2.2⟩
      case round =>
        obtain ⟨i, hi, rfl, how, hB2⟩ := hrel
        have HSI := Lib.hid (HS2.out.next hB2)
        by_cases hlt2 : i < r.length
        · obtain ⟨g, off, hrv, hg, d1⟩ := IntsAt.cell HSI.out.rr hlt2
          obtain ⟨n, hn, hnn⟩ := inc_at HIN.out hlt2
          rw [HNR.out] at hnn
          have hna : n < a.length := by have := HLN.out; omega
          have hnb : n < b.length := by have := HLN.out; omega
          obtain ⟨ga, offa, hav2, hga, d2⟩ := IntsAt.cell (HIA2.out.1.below hB2 (Nat.le_refl _)) hna
          have hmx := mixL_succ (r := r) (a := a) (b := b) hlt2
          rw [hn] at hmx d1
          rw [Int.toNat_natCast, show a.getD n 0 = a[n] from by simp [List.getD, hna]] at hmx
          generalize a[n] = y at *
          have HP := Lib.hid (And.intro how (And.intro hB2 hmx))
          have hltI : (i : Int) < r.length := by omega
          have hnaI : (n : Int) < a.length := by omega
          have hnbI : (n : Int) < b.length := by omega
          subst hrv
          cases hav2
          clear hmx how hB2 hn
          go_wp2_with fail
          refine wp_region_rg 12 [] none [] (by as_aux_lemma => kernel_rfl) (by as_aux_lemma => kernel_rfl) ?_
          simp only [List.take_succ_cons, List.take_zero, List.drop_succ_cons, List.drop_zero]
          repeat (first | (refine tree_det (by rfl) _ (by rfl) (fun W hW => by go_simp; (try simp (disch := omega) only [IntWalk.i64_in]); try rfl) ?_; simp only [Act.put, List.setIfInBounds_toArray, List.set_cons_succ, List.set_cons_zero]) | (refine tree_skip (by rfl) (by rfl) ?_; simp only [Act.put, List.setIfInBounds_toArray, List.set_cons_succ, List.set_cons_zero]))
          intro X hE hF
          have hE' : Ext [] wr X := hE
          obtain ⟨p1, p2, p3, p4, p5⟩ := owns_setI (y := y) (owns_ext (Ms := []) HP.out.1 hE' (by simp)) hnb
          have HPX := Lib.hid (And.intro p1 (bgo HP.out.2.1 hE'.below))
          clear p1 p5 hE hF hE' d1 d2 hg hga
          go_wp2_with fail
          go_roundw
          case rel => exact ⟨i + 1, by omega, by go_num, by rw [HP.out.2.2]; exact HPX.out.1, bgoSet HPX.out.2 hgm _⟩
          case measure => simp [intOf]; omega
        · have hil : i = r.length := by omega
          have hnl2 : ¬ (i : Int) < r.length := by omega
          rw [hil] at how
          have HMX := Lib.hid (And.intro how hB2)
          obtain ⟨hc, hf, hl⟩ := cells_of_block HSI.out.b0
          have HFT := Lib.hid (SlAt.of_owns how)
          have hml : (mixL r a b r.length).length = b.length := mixL_len _ _ _ _
          have HIAI := Lib.hid (And.intro (HIA2.out.1.below hB2 (Nat.le_refl _)) (HIA2.out.2.below hB2 (Nat.le_refl _)))
          clear how hB2 hil
          go_wp2_with fail
          refine (rField_any f _ _ HSI.out.tal (by omega)).mono ?_
          rintro e Y4 ⟨tv2, rfl, ht2, hb⟩
          obtain ⟨to2, tc2, rfl⟩ := ht2.open
          have HF2 := Lib.hid ht2
          have HS4 := Lib.hid (HSI.out.next hb)
          have HIA4 := Lib.hid (And.intro (HIAI.out.1.below hb (Nat.le_refl _)) (HIAI.out.2.below hb (Nat.le_refl _)))
          obtain ⟨mix, hmix⟩ : ∃ mix, mixL r a b r.length = mix := ⟨_, rfl⟩
          rw [hmix] at HFT hml
          have HMIX := Lib.hid hmix
          have HFT4 := Lib.hid (show IntsAt Y4 (.slice (some ⟨gm, 0, none⟩) b.length mc) mix from by have := HFT.out.below hb (Nat.le_refl _); unfold IntsAt; rw [hml]; exact this)
          have hmx7 : mix.length ≤ 7 := by omega
          have HML := Lib.hid hml
          clear hb ht2 hc hf hl hmix hml
          obtain ⟨hc, hf, hl⟩ := cells_of_block HS4.out.b0
          go_wp2_with (at_builtin; refine wpList_copy (by first | rfl | (simp [Region.wanted, yielded]; done) | (simp [Region.wanted, yielded]; omega)) _ _ rfl rfl (heap_new0 Y4 (.cells #[] 3)) mix _ rfl (HFT4.out.below ((Below.refl Y4.heap.size Y4).alloc (Nat.le_refl _) _) (Nat.le_refl _)) (by omega) ?_)
          intro qo qc Y5 hqo hqb
          have hb5 : Below Y4.heap.size Y4 Y5 := ((Below.refl Y4.heap.size Y4).alloc (Nat.le_refl _) _).trans hqb
          have HS5 := Lib.hid (HS4.out.next hb5)
          have HIA5 := Lib.hid (And.intro (HIA4.out.1.below hb5 (Nat.le_refl _)) (HIA4.out.2.below hb5 (Nat.le_refl _)))
          have HFT5 := Lib.hid (HFT4.out.below hb5 (Nat.le_refl _))
          have HPT := Lib.hid (wProveTruth_any f (.slice to2 f.tallies.length tc2) (.slice qo mix.length qc) mix Y5 (HF2.out.below hb5 (Nat.le_refl _)) (SlAt.of_owns hqo))
          have HOT := Lib.hid (show otherL f r a b = if proveTruthB f mix then mix else b from by unfold otherL; rw [HMIX.out])
          have hmixp : proveTruthB f mix = false := by rw [← HMIX.out]; exact HSEL.out
          rw [hmixp] at HPT HOT
          clear hmixp
          clear hqo hqb hb5 hc hf hl
          obtain ⟨hc, hf, hl⟩ := cells_of_block HS5.out.b0
          go_wp2_with fail
          refine HPT.out.mono ?_
          rintro e Y6 ⟨rfl, hb⟩
          have HS6 := Lib.hid (HS5.out.next hb)
          have hia6 := HIA5.out.1.below hb (Nat.le_refl _)
          have hib6 := HIA5.out.2.below hb (Nat.le_refl _)
          have hft6 := HFT5.out.below hb (Nat.le_refl _)
          clear hb hc hf hl
          obtain ⟨hc, hf, hl⟩ := cells_of_block HS6.out.b0
          have hmem := otherL_mem (r := r) (a := a) HMA.out.2
          rw [HOT.out] at hmem
          have hmem' : b ∈ truthsF f [] := HMA.out.2
          have HIA6 := Lib.hid (show IntsAt Y6 (.slice ao a.length ac) a ∧ SlAt 1 Y6 (.slice bo2 b.length bc2) b.length (intCells b) from And.intro hia6 hib6)
          clear hia6 hib6 hft6 hmem
          have HMB := Lib.hid (show b ∈ truthsF f [] from hmem')
          have hBl : (b).length = b.length := (truthsF_len HMB.out).trans (truthsF_len HMA.out.2).symm
          have hor := ofBits_lt HIN.out
          have hpo : 2 ^ f.rows.toNat ≤ 2 ^ 7 := Nat.pow_le_pow_right (by omega) (by have := HNR.out; omega)
          have hof7 : ofBits r ≤ 127 := by omega
          obtain ⟨of, hof⟩ : ∃ of, ofBits r = of := ⟨_, rfl⟩
          rw [hof] at hof7
          have HOF := Lib.hid hof
          have HBL := Lib.hid hBl
          clear hor hpo hBl
          go_wp2_with fail
          (try rw [hof])
          clear hof hc hf hl
          go_loopw [27, 28] (fun q u wq => ∃ j : Nat, j ≤ nr ∧ u = .int .i64 j ∧ q = .bool (alikeTo of a b j) ∧ Below Y6.heap.size Y6 wq) (fun _ u _ => nr - (intOf u).toNat)
          case atStart => exact ⟨0, Nat.zero_le _, rfl, rfl, Below.refl _ _⟩
          case round =>
            obtain ⟨j, hj, rfl, rfl, hB6⟩ := hrel
            have HSJ := Lib.hid (HS6.out.next hB6)
            have HIJ := Lib.hid (And.intro (HIA6.out.1.below hB6 (Nat.le_refl _)) (HIA6.out.2.below hB6 (Nat.le_refl _)))
            obtain ⟨hc, hf, hl⟩ := cells_of_block HSJ.out.b0
            have HB6 := Lib.hid hB6
            clear hB6
            by_cases hlt3 : j < nr
            · have hjr : (j : Int) < f.rows := by have := HNR.out; omega
              have hja : j < a.length := by have := HLN.out; omega
              have hjb : j < (b).length := by have := HLN.out; have := HBL.out; omega
              obtain ⟨g1, off1, hv1, _, d1⟩ := IntsAt.cell HIJ.out.1 hja
              obtain ⟨g2, off2, hv2, _, d2⟩ := IntsAt.cell HIJ.out.2 hjb
              have hsu := alikeTo_succ of a b j
              rw [show a.getD j 0 = a[j] from by simp [List.getD, hja], show (b).getD j 0 = (b)[j] from by simp [List.getD, hjb]] at hsu
              have hdI : (of : Int) / 2 ^ j = ((of / 2 ^ j : Nat) : Int) := by norm_cast
              have hbit := bit_at of j
              have hdle : of / 2 ^ j ≤ of := Nat.div_le_self _ _
              generalize of / 2 ^ j = d at *
              have hd1 : (d : Int) ≤ 127 := by omega
              have hd0 : (0 : Int) ≤ d := by omega
              have hj64 : IntKind.u64.wrap (j : Int) = j := by rw [IntWalk.u64_in] <;> omega
              have hsh : (of : Int) / 2 ^ min (IntKind.u64.wrap (j : Int)).toNat 64 = (d : Int) := by rw [hj64, Int.toNat_natCast, Nat.min_eq_left (by omega)]; exact hdI
              clear hj64 hdI
              generalize a[j] = x at *
              generalize (b)[j] = y at *
              have HSU := Lib.hid hsu
              have hjaI : (j : Int) < a.length := by omega
              have hjbI : (j : Int) < b.length := by have := HBL.out; omega
              subst hv1
              cases hv2
              (try simp only [Nat.zero_add] at d2)
              clear hsu
              generalize alikeTo of a b j = q at *
              cases q
              · go_upto_region 35 with (fail)
                refine wp_region_rg 20 [] none [] (by as_aux_lemma => kernel_rfl) (by as_aux_lemma => kernel_rfl) ?_
                simp only [List.take_succ_cons, List.take_zero, List.drop_succ_cons, List.drop_zero]
                repeat (first | (refine tree_det (by rfl) _ (by rfl) (fun W hW => by go_simp; (try simp (disch := omega) only [IntWalk.i64_in]); try rfl) ?_; simp only [Act.put, List.setIfInBounds_toArray, List.set_cons_succ, List.set_cons_zero]) | (refine tree_skip (by rfl) (by rfl) ?_; simp only [Act.put, List.setIfInBounds_toArray, List.set_cons_succ, List.set_cons_zero]))
                intro X hE hF
                have HX := Lib.hid (bgo HB6.out (Ext.below (show Ext [] wr X from hE)))
                clear hE hF hc hf hl d1 d2
                go_wp2_with fail
                go_roundw
                case rel => exact ⟨j + 1, by omega, by go_num, by rw [HSU.out]; rfl, HX.out⟩
                case measure => simp [intOf]; omega
              · cases hb : of.testBit j
                · have hb0 : (d : Int).tmod 2 = 0 := by rw [hb] at hbit; have := beq_eq_false_iff_ne.1 hbit; rw [Int.tmod_eq_emod_of_nonneg hd0]; omega
                  rw [hb] at HSU
                  clear hb hbit
                  go_upto_region 35 with (fail)
                  refine wp_region_rg 20 [] none [] (by as_aux_lemma => kernel_rfl) (by as_aux_lemma => kernel_rfl) ?_
                  simp only [List.take_succ_cons, List.take_zero, List.drop_succ_cons, List.drop_zero]
                  repeat (first | (refine tree_det (by rfl) _ (by rfl) (fun W hW => by go_simp; (try simp (disch := omega) only [IntWalk.i64_in]); try rfl) ?_; simp only [Act.put, List.setIfInBounds_toArray, List.set_cons_succ, List.set_cons_zero]) | (refine tree_skip (by rfl) (by rfl) ?_; simp only [Act.put, List.setIfInBounds_toArray, List.set_cons_succ, List.set_cons_zero]))
                  intro X hE hF
                  have HX := Lib.hid (bgo HB6.out (Ext.below (show Ext [] wr X from hE)))
                  clear hE hF hc hf hl d1 d2
                  go_wp2_with fail
                  go_roundw
                  case rel => exact ⟨j + 1, by omega, by go_num, by rw [HSU.out]; rfl, HX.out⟩
                  case measure => simp [intOf]; omega
                · have hb1 : (d : Int).tmod 2 = 1 := by rw [hb] at hbit; rw [Int.tmod_eq_emod_of_nonneg hd0]; exact beq_iff_eq.1 hbit
                  rw [hb] at HSU
                  clear hb hbit
                  go_upto_region 35 with (fail)
                  refine wp_region_rg 20 [] none [] (by as_aux_lemma => kernel_rfl) (by as_aux_lemma => kernel_rfl) ?_
                  simp only [List.take_succ_cons, List.take_zero, List.drop_succ_cons, List.drop_zero]
                  repeat (first | (refine tree_det (by rfl) _ (by rfl) (fun W hW => by go_simp; (try simp (disch := omega) only [IntWalk.i64_in]); try rfl) ?_; simp only [Act.put, List.setIfInBounds_toArray, List.set_cons_succ, List.set_cons_zero]) | (refine tree_skip (by rfl) (by rfl) ?_; simp only [Act.put, List.setIfInBounds_toArray, List.set_cons_succ, List.set_cons_zero]))
                  intro X hE hF
                  have HX := Lib.hid (bgo HB6.out (Ext.below (show Ext [] wr X from hE)))
                  clear hE hF hc hf hl d1 d2
                  go_wp2_with fail
                  go_roundw
                  case rel => exact ⟨j + 1, by omega, by go_num, by rw [HSU.out]; rfl, HX.out⟩
                  case measure => simp [intOf]; omega
            · have hjn : j = nr := by omega
              have hnr2 : ¬ (j : Int) < f.rows := by have := HNR.out; omega
              subst hjn
              obtain ⟨lc, lf, ll⟩ := cells_of_block HSJ.out.bl
              have hIB : IntsAt wr (.slice bo2 b.length bc2) b := by first | exact HIJ.out.2 | (have := HIJ.out.2; unfold IntsAt; rw [HBL.out]; exact this)
              have hB7 : (b).length ≤ 7 := by have := HBL.out; omega
              have HIB := Lib.hid hIB
              have HIAa := Lib.hid HIJ.out.1
              obtain ⟨D1, hD1⟩ : ∃ D, dueV (wideL f R) a = D := ⟨_, rfl⟩
              obtain ⟨D2, hD2⟩ : ∃ D, dueV (wideL f R) b = D := ⟨_, rfl⟩
              have hD1l : D1.length = nw := by rw [← hD1, dueV_len f R HS.out]; exact HNT.out
              have hD2l : D2.length = nw := by rw [← hD2, dueV_len f R HS.out]; exact HNT.out
              have HDD := Lib.hid (And.intro hD1 (And.intro hD2 (And.intro hD1l hD2l)))
              obtain ⟨AL, hAL⟩ : ∃ AL, alikeTo of a b j = AL := ⟨_, rfl⟩
              have HAL := Lib.hid hAL
              rw [hAL]
              clear hIB hD1 hD2 hD1l hD2l hAL
              go_upto_region 36 with (fail)
              have HDUE := Lib.hid (fun (Wx : World) (hb : Below wr.heap.size wr Wx) (cv : Value) (hcv : IntsAt Wx cv a) => Due_any (wideL f R) (.slice to1 f.tallies.length tc1) (.slice none 0 0) cv a Wx (HSJ.out.tal1.below hb (Nat.le_refl _)) (SlAt.nil 3 Wx) hcv (by show -1000 ≤ f.weeders ∧ f.weeders ≤ 1000; omega))
              have HDE := Lib.hid (dueErr_ok (rate := R) HF0.out hR1 hR2 HMA.out.1)
              refine wp_region_rg 9 [] none [(1, Spec.slice wr.heap.size #[] 3 0), (3, ⟨fun _ v => ∃ o c, v = .slice o (a).length c, fun _ v Wx => IntsAt Wx v a⟩), (4, ⟨fun _ v => ∃ o c, v = .tuple #[.slice o nw c, iv 0], fun _ v Wx => ∃ o c, v = .tuple #[.slice o nw c, iv 0] ∧ SlAt 1 Wx (.slice o nw c) nw (intCells D1)⟩)] (by as_aux_lemma => kernel_rfl) (by as_aux_lemma => kernel_rfl) ?_
              simp only [List.take_succ_cons, List.take_zero, List.drop_succ_cons, List.drop_zero]
              repeat (first | (refine tree_det (by rfl) _ (by rfl) (fun W hW => by go_simp; (try simp (disch := omega) only [IntWalk.i64_in]); try rfl) ?_; simp only [Act.put, List.setIfInBounds_toArray, List.set_cons_succ, List.set_cons_zero]) | (refine tree_skip (by rfl) (by rfl) ?_; simp only [Act.put, List.setIfInBounds_toArray, List.set_cons_succ, List.set_cons_zero]))
              refine tree_slice wr.heap.size #[] 3 0 (by rfl) (Nat.le_refl _) (by rfl) (by simp) (by simp) (fun W hW => by go_simp; try rfl) (fun b2 => ?_)
              simp only [Act.put, List.setIfInBounds_toArray, List.set_cons_succ, List.set_cons_zero]
              repeat (first | (refine tree_det (by rfl) _ (by rfl) (fun W hW => by go_simp; (try simp (disch := omega) only [IntWalk.i64_in]); try rfl) ?_; simp only [Act.put, List.setIfInBounds_toArray, List.set_cons_succ, List.set_cons_zero]) | (refine tree_skip (by rfl) (by rfl) ?_; simp only [Act.put, List.setIfInBounds_toArray, List.set_cons_succ, List.set_cons_zero]))
              refine tree_some _ (by rfl) (by rfl) (by exact ⟨.slice none (a).length 0, none, 0, rfl⟩) (fun Wa hE hF => ?_) (fun v Wa Wb ho hE => SlAt.below ho (Ext.below (show Ext [] Wa Wb from hE)) (Nat.le_refl _)) (fun v hv => ?_)
              · have hE' : Ext [] wr Wa := hE
                obtain ⟨b', hb', hge, hcc⟩ := hF _ (List.Mem.head _) (by kernel_rfl)
                cases hb'
                refine Does.mono (does_append_empty tInts (by rfl) (by rfl) hge hcc (by rfl) (HIAa.out.below hE'.below (Nat.le_refl _)) (one_ints _) (by omega) (by omega) hE'.size) ?_
                rintro v' Wc ⟨ho, hE2⟩
                exact ⟨owns_slice ho, SlAt.of_owns ho, hE2⟩
              obtain ⟨o3, c3, rfl⟩ := hv
              simp only [Act.put, List.setIfInBounds_toArray, List.set_cons_succ, List.set_cons_zero]
              refine tree_some _ (by rfl) (by rfl) (by exact ⟨_, none, 0, rfl⟩) (fun Wa hE hF => ?_) (fun v Wa Wb ho hE => ?_) (fun v hv => ?_)
              · have hE' : Ext [] wr Wa := hE
                have hcv : IntsAt Wa (.slice o3 (a).length c3) a := hF _ (List.Mem.head _) (by kernel_rfl)
                refine does_enter 17 #[.agg #[iv f.rows, iv f.weeders, iv f.left.1, iv f.left.2, .slice to1 f.tallies.length tc1, iv R, iv 0, iv 2000, .slice none 0 0], .slice o3 (a).length c3] (by go_simp; try rfl) ?_
                refine (HDUE.out Wa hE'.below _ hcv).mono ?_
                rintro e W' ⟨hb, ⟨hne, _⟩ | ⟨_, v, rfl, hv⟩⟩
                · exact absurd HDE.out hne
                rw [HDD.out.1] at hv
                have hv' : SlAt 1 W' v nw (intCells D1) := by have := hv; unfold IntsAt at this; rw [HDD.out.2.2.1] at this; exact this
                obtain ⟨o, c, rfl⟩ := hv'.open
                exact ⟨_, rfl, ⟨o, c, rfl⟩, ⟨o, c, rfl, hv'⟩, Ext.of_below hb⟩
              · obtain ⟨o, c, hv, h1⟩ := ho
                exact ⟨o, c, hv, h1.below (Ext.below (show Ext [] Wa Wb from hE)) (Nat.le_refl _)⟩
              obtain ⟨oX1, cX1, rfl⟩ := hv
              simp only [Act.put, List.setIfInBounds_toArray, List.set_cons_succ, List.set_cons_zero]
              repeat (first | (refine tree_det (by rfl) _ (by rfl) (fun W hW => by go_simp; (try simp (disch := omega) only [IntWalk.i64_in]); try rfl) ?_; simp only [Act.put, List.setIfInBounds_toArray, List.set_cons_succ, List.set_cons_zero]) | (refine tree_skip (by rfl) (by rfl) ?_; simp only [Act.put, List.setIfInBounds_toArray, List.set_cons_succ, List.set_cons_zero]))
              intro X1 hE hF
              obtain ⟨o', c', he, hvX⟩ := hF _ (List.Mem.head _)
              cases he
              have hbX : Below wr.heap.size wr X1 := Ext.below (show Ext [] wr X1 from hE)
              have HSX1 := Lib.hid (HSJ.out.next hbX)
              have HIB1 := Lib.hid (HIB.out.below hbX (Nat.le_refl _))
              have HV1 := Lib.hid hvX
              clear hbX hvX hE hF hc hf hl lc lf ll
              obtain ⟨hc, hf, hl⟩ := cells_of_block HSX1.out.b0
              obtain ⟨lc, lf, ll⟩ := cells_of_block HSX1.out.bl
              go_upto_region 37 with (fail)
              have HDUE := Lib.hid (fun (Wx : World) (hb : Below X1.heap.size X1 Wx) (cv : Value) (hcv : IntsAt Wx cv b) => Due_any (wideL f R) (.slice to1 f.tallies.length tc1) (.slice none 0 0) cv b Wx (HSX1.out.tal1.below hb (Nat.le_refl _)) (SlAt.nil 3 Wx) hcv (by show -1000 ≤ f.weeders ∧ f.weeders ≤ 1000; omega))
              have HDE := Lib.hid (dueErr_ok (rate := R) HF0.out hR1 hR2 HMB.out)
              refine wp_region_rg 9 [] none [(1, Spec.slice X1.heap.size #[] 3 0), (3, ⟨fun _ v => ∃ o c, v = .slice o (b).length c, fun _ v Wx => IntsAt Wx v b⟩), (4, ⟨fun _ v => ∃ o c, v = .tuple #[.slice o nw c, iv 0], fun _ v Wx => ∃ o c, v = .tuple #[.slice o nw c, iv 0] ∧ SlAt 1 Wx (.slice o nw c) nw (intCells D2)⟩)] (by as_aux_lemma => kernel_rfl) (by as_aux_lemma => kernel_rfl) ?_
              simp only [List.take_succ_cons, List.take_zero, List.drop_succ_cons, List.drop_zero]
              repeat (first | (refine tree_det (by rfl) _ (by rfl) (fun W hW => by go_simp; (try simp (disch := omega) only [IntWalk.i64_in]); try rfl) ?_; simp only [Act.put, List.setIfInBounds_toArray, List.set_cons_succ, List.set_cons_zero]) | (refine tree_skip (by rfl) (by rfl) ?_; simp only [Act.put, List.setIfInBounds_toArray, List.set_cons_succ, List.set_cons_zero]))
              refine tree_slice X1.heap.size #[] 3 0 (by rfl) (Nat.le_refl _) (by rfl) (by simp) (by simp) (fun W hW => by go_simp; try rfl) (fun b2 => ?_)
              simp only [Act.put, List.setIfInBounds_toArray, List.set_cons_succ, List.set_cons_zero]
              repeat (first | (refine tree_det (by rfl) _ (by rfl) (fun W hW => by go_simp; (try simp (disch := omega) only [IntWalk.i64_in]); try rfl) ?_; simp only [Act.put, List.setIfInBounds_toArray, List.set_cons_succ, List.set_cons_zero]) | (refine tree_skip (by rfl) (by rfl) ?_; simp only [Act.put, List.setIfInBounds_toArray, List.set_cons_succ, List.set_cons_zero]))
              refine tree_some _ (by rfl) (by rfl) (by exact ⟨.slice none (b).length 0, none, 0, rfl⟩) (fun Wa hE hF => ?_) (fun v Wa Wb ho hE => SlAt.below ho (Ext.below (show Ext [] Wa Wb from hE)) (Nat.le_refl _)) (fun v hv => ?_)
              · have hE' : Ext [] X1 Wa := hE
                obtain ⟨b', hb', hge, hcc⟩ := hF _ (List.Mem.head _) (by kernel_rfl)
                cases hb'
                refine Does.mono (does_append_empty tInts (by rfl) (by rfl) hge hcc (by rfl) (HIB1.out.below hE'.below (Nat.le_refl _)) (one_ints _) (by omega) (by omega) hE'.size) ?_
                rintro v' Wc ⟨ho, hE2⟩
                exact ⟨owns_slice ho, SlAt.of_owns ho, hE2⟩
              obtain ⟨o3, c3, rfl⟩ := hv
              simp only [Act.put, List.setIfInBounds_toArray, List.set_cons_succ, List.set_cons_zero]
              refine tree_some _ (by rfl) (by rfl) (by exact ⟨_, none, 0, rfl⟩) (fun Wa hE hF => ?_) (fun v Wa Wb ho hE => ?_) (fun v hv => ?_)
              · have hE' : Ext [] X1 Wa := hE
                have hcv : IntsAt Wa (.slice o3 (b).length c3) b := hF _ (List.Mem.head _) (by kernel_rfl)
                refine does_enter 17 #[.agg #[iv f.rows, iv f.weeders, iv f.left.1, iv f.left.2, .slice to1 f.tallies.length tc1, iv R, iv 0, iv 2000, .slice none 0 0], .slice o3 (b).length c3] (by go_simp; try rfl) ?_
                refine (HDUE.out Wa hE'.below _ hcv).mono ?_
                rintro e W' ⟨hb, ⟨hne, _⟩ | ⟨_, v, rfl, hv⟩⟩
                · exact absurd HDE.out hne
                rw [HDD.out.2.1] at hv
                have hv' : SlAt 1 W' v nw (intCells D2) := by have := hv; unfold IntsAt at this; rw [HDD.out.2.2.2] at this; exact this
                obtain ⟨o, c, rfl⟩ := hv'.open
                exact ⟨_, rfl, ⟨o, c, rfl⟩, ⟨o, c, rfl, hv'⟩, Ext.of_below hb⟩
              · obtain ⟨o, c, hv, h1⟩ := ho
                exact ⟨o, c, hv, h1.below (Ext.below (show Ext [] Wa Wb from hE)) (Nat.le_refl _)⟩
              obtain ⟨oX2, cX2, rfl⟩ := hv
              simp only [Act.put, List.setIfInBounds_toArray, List.set_cons_succ, List.set_cons_zero]
              repeat (first | (refine tree_det (by rfl) _ (by rfl) (fun W hW => by go_simp; (try simp (disch := omega) only [IntWalk.i64_in]); try rfl) ?_; simp only [Act.put, List.setIfInBounds_toArray, List.set_cons_succ, List.set_cons_zero]) | (refine tree_skip (by rfl) (by rfl) ?_; simp only [Act.put, List.setIfInBounds_toArray, List.set_cons_succ, List.set_cons_zero]))
              intro X2 hE hF
              obtain ⟨o', c', he, hvX⟩ := hF _ (List.Mem.head _)
              cases he
              have hbX : Below X1.heap.size X1 X2 := Ext.below (show Ext [] X1 X2 from hE)
              have HSX2 := Lib.hid (HSX1.out.next hbX)
              have HV2 := Lib.hid (And.intro (HV1.out.below hbX (Nat.le_refl _)) hvX)
              clear hbX hvX hE hF hc hf hl lc lf ll
              obtain ⟨hc, hf, hl⟩ := cells_of_block HSX2.out.b0
              obtain ⟨lc, lf, ll⟩ := cells_of_block HSX2.out.bl
              have hnwb : ((nw : Int) != f.weeders) = false := by have := HNW.out; rw [bne_eq_false_iff_eq]; omega
              have hnwb' : ¬ ((nw : Int) ≠ f.weeders) := by have := HNW.out; omega
              go_wp2_with fail
              clear hc hf hl lc lf ll hnwb hnwb'
              go_loopw [33] (fun u wq => ∃ k : Nat, k ≤ nw ∧ u = .int .i64 k ∧ Below X2.heap.size X2 wq) (fun u _ => nw - (intOf u).toNat)
              case atStart => exact ⟨0, Nat.zero_le _, rfl, Below.refl _ _⟩
              case round =>
                obtain ⟨k, hk, rfl, hBk⟩ := hrel
                have HSK := Lib.hid (HSX2.out.next hBk)
                have hv1 := HV2.out.1.below hBk (Nat.le_refl _)
                have hv2 := HV2.out.2.below hBk (Nat.le_refl _)
                obtain ⟨hc, hf, hl⟩ := cells_of_block HSK.out.b0
                obtain ⟨lc, lf, ll⟩ := cells_of_block HSK.out.bl
                have HBK := Lib.hid hBk
                clear hBk
                by_cases hltk : k < nw
                · have hkwI : (k : Int) < f.weeders := by have := HNW.out; omega
                  have hk1 : k < D1.length := by have := HDD.out.2.2.1; omega
                  have hk2 : k < D2.length := by have := HDD.out.2.2.2; omega
                  have hkd : k < dl.length := by have := HDLL.out; have := HNT.out; omega
                  obtain ⟨g1, off1, e1, q1, d1⟩ := IntsAt.cell hv1 hk1
                  obtain ⟨g2, off2, e2, q2, d2⟩ := IntsAt.cell hv2 hk2
                  obtain ⟨g3, off3, e3, q3, d3, d4⟩ := PairsAt.cell HSK.out.dd hkd
                  have hkp : (AL = true → D1[k] = D2[k]) ∧ (dl[k].1 = dl[k].2 → D1[k] = D2[k] ∧ D1[k] = R * dl[k].1) := by
                    have h1 := HD0.out
                    have h2 := HR0.out
                    have h3 := HDD.out.1
                    have h4 := HDD.out.2.1
                    have h5 := HAL.out
                    have h6 := HOF.out
                    have h7 := HNR.out
                    subst h1 h3 h4
                    have := known_plain (rate := R) HS.out HMA.out.1 HMB.out (i := k) (by omega) (by omega) (by omega)
                    rw [h2, h6, h7] at this
                    rw [h5] at this
                    exact this
                  have hxb : 0 ≤ D1[k] ∧ D1[k] ≤ 350 := by
                    have h3 := HDD.out.1
                    subst h3
                    exact dueV_bd HS.out hR1 hR2 HMA.out.1 hk1
                  generalize D1[k] = x at *
                  generalize D2[k] = y at *
                  generalize dl[k] = lh at *
                  obtain ⟨lo, hi⟩ := lh
                  simp only at hkp d3 d4
                  have hkmI : (k : Int) < max f.weeders 0 := by omega
                  have hknI : (k : Int) < nw := by omega
                  subst e1 e3
                  cases e2
                  by_cases hlh : lo = hi
                  · obtain ⟨hxy, hxm⟩ := hkp.2 hlh
                    subst hlh
                    rw [← hxy] at d2
                    have hmul : R * lo = x := hxm.symm
                    have hxx : ¬ (x ≠ x) := by simp
                    clear hkp hxy hxm
                    cases AL
                    · skip
                      go_upto_region 43 with (fail)
                      refine wp_region_rg 11 [] none [] (by as_aux_lemma => kernel_rfl) (by as_aux_lemma => kernel_rfl) ?_
                      simp only [List.take_succ_cons, List.take_zero, List.drop_succ_cons, List.drop_zero]
                      repeat (first | (refine tree_det (by rfl) _ (by rfl) (fun W hW => by go_simp; (try simp (disch := omega) only [IntWalk.i64_in]); try rfl) ?_; simp only [Act.put, List.setIfInBounds_toArray, List.set_cons_succ, List.set_cons_zero]) | (refine tree_skip (by rfl) (by rfl) ?_; simp only [Act.put, List.setIfInBounds_toArray, List.set_cons_succ, List.set_cons_zero]))
                      intro X3 hE hF
                      have hE3 : Ext [] wr X3 := hE
                      have d1' := (hE3.cell g1 (off1 + k) q1 (by simp)).trans d1
                      have d2' := (hE3.cell g2 (off2 + k) q2 (by simp)).trans d2
                      have d3' := (hE3.cell g3 (off3 + k * 2) q3 (by simp)).trans d3
                      have d4' := (hE3.cell g3 (off3 + k * 2 + 1) q3 (by simp)).trans d4
                      have q1' : g1 < X3.heap.size := Nat.lt_of_lt_of_le q1 hE3.size
                      have q2' : g2 < X3.heap.size := Nat.lt_of_lt_of_le q2 hE3.size
                      have q3' : g3 < X3.heap.size := Nat.lt_of_lt_of_le q3 hE3.size
                      have HB3' := Lib.hid (bgo HBK.out hE3.below)
                      have HS3' := Lib.hid (HSK.out.next hE3.below)
                      clear hE hF hE3 d1 d2 d3 d4 q1 q2 q3 hc hf hl lc lf ll
                      obtain ⟨hc, hf, hl⟩ := cells_of_block HS3'.out.b0
                      obtain ⟨lc, lf, ll⟩ := cells_of_block HS3'.out.bl
                      go_upto_region 44 with (fail)
                      refine wp_region_rg 33 [] none [] (by as_aux_lemma => kernel_rfl) (by as_aux_lemma => kernel_rfl) ?_
                      simp only [List.take_succ_cons, List.take_zero, List.drop_succ_cons, List.drop_zero]
                      repeat (first | (refine tree_det (by rfl) _ (by rfl) (fun W hW => by go_simp; (try simp (disch := omega) only [IntWalk.i64_in]); try rfl) ?_; simp only [Act.put, List.setIfInBounds_toArray, List.set_cons_succ, List.set_cons_zero]) | (refine tree_skip (by rfl) (by rfl) ?_; simp only [Act.put, List.setIfInBounds_toArray, List.set_cons_succ, List.set_cons_zero]))
                      intro X4 hE hF
                      have HB4' := Lib.hid (bgo HB3'.out (Ext.below (show Ext [] X3 X4 from hE)))
                      clear hE hF d1' d2' d3' d4' q1' q2' q3' hc hf hl lc lf ll
                      go_wp2_with fail
                      go_roundw
                      case rel => exact ⟨k + 1, by omega, by go_num, HB4'.out⟩
                      case measure => simp [intOf]; omega
                    · skip
                      go_upto_region 43 with (fail)
                      refine wp_region_rg 11 [] none [] (by as_aux_lemma => kernel_rfl) (by as_aux_lemma => kernel_rfl) ?_
                      simp only [List.take_succ_cons, List.take_zero, List.drop_succ_cons, List.drop_zero]
                      repeat (first | (refine tree_det (by rfl) _ (by rfl) (fun W hW => by go_simp; (try simp (disch := omega) only [IntWalk.i64_in]); try rfl) ?_; simp only [Act.put, List.setIfInBounds_toArray, List.set_cons_succ, List.set_cons_zero]) | (refine tree_skip (by rfl) (by rfl) ?_; simp only [Act.put, List.setIfInBounds_toArray, List.set_cons_succ, List.set_cons_zero]))
                      intro X3 hE hF
                      have hE3 : Ext [] wr X3 := hE
                      have d1' := (hE3.cell g1 (off1 + k) q1 (by simp)).trans d1
                      have d2' := (hE3.cell g2 (off2 + k) q2 (by simp)).trans d2
                      have d3' := (hE3.cell g3 (off3 + k * 2) q3 (by simp)).trans d3
                      have d4' := (hE3.cell g3 (off3 + k * 2 + 1) q3 (by simp)).trans d4
                      have q1' : g1 < X3.heap.size := Nat.lt_of_lt_of_le q1 hE3.size
                      have q2' : g2 < X3.heap.size := Nat.lt_of_lt_of_le q2 hE3.size
                      have q3' : g3 < X3.heap.size := Nat.lt_of_lt_of_le q3 hE3.size
                      have HB3' := Lib.hid (bgo HBK.out hE3.below)
                      have HS3' := Lib.hid (HSK.out.next hE3.below)
                      clear hE hF hE3 d1 d2 d3 d4 q1 q2 q3 hc hf hl lc lf ll
                      obtain ⟨hc, hf, hl⟩ := cells_of_block HS3'.out.b0
                      obtain ⟨lc, lf, ll⟩ := cells_of_block HS3'.out.bl
                      go_upto_region 44 with (fail)
                      refine wp_region_rg 33 [] none [] (by as_aux_lemma => kernel_rfl) (by as_aux_lemma => kernel_rfl) ?_
                      simp only [List.take_succ_cons, List.take_zero, List.drop_succ_cons, List.drop_zero]
                      repeat (first | (refine tree_det (by rfl) _ (by rfl) (fun W hW => by go_simp; (try simp (disch := omega) only [IntWalk.i64_in]); try rfl) ?_; simp only [Act.put, List.setIfInBounds_toArray, List.set_cons_succ, List.set_cons_zero]) | (refine tree_skip (by rfl) (by rfl) ?_; simp only [Act.put, List.setIfInBounds_toArray, List.set_cons_succ, List.set_cons_zero]))
                      intro X4 hE hF
                      have HB4' := Lib.hid (bgo HB3'.out (Ext.below (show Ext [] X3 X4 from hE)))
                      clear hE hF d1' d2' d3' d4' q1' q2' q3' hc hf hl lc lf ll
                      go_wp2_with fail
                      go_roundw
                      case rel => exact ⟨k + 1, by omega, by go_num, HB4'.out⟩
                      case measure => simp [intOf]; omega
                  · have hlhb : (lo == hi) = false := by simpa using hlh
                    cases AL
                    · clear hkp
                      go_upto_region 43 with (fail)
                      refine wp_region_rg 11 [] none [] (by as_aux_lemma => kernel_rfl) (by as_aux_lemma => kernel_rfl) ?_
                      simp only [List.take_succ_cons, List.take_zero, List.drop_succ_cons, List.drop_zero]
                      repeat (first | (refine tree_det (by rfl) _ (by rfl) (fun W hW => by go_simp; (try simp (disch := omega) only [IntWalk.i64_in]); try rfl) ?_; simp only [Act.put, List.setIfInBounds_toArray, List.set_cons_succ, List.set_cons_zero]) | (refine tree_skip (by rfl) (by rfl) ?_; simp only [Act.put, List.setIfInBounds_toArray, List.set_cons_succ, List.set_cons_zero]))
                      intro X3 hE hF
                      have hE3 : Ext [] wr X3 := hE
                      have d1' := (hE3.cell g1 (off1 + k) q1 (by simp)).trans d1
                      have d2' := (hE3.cell g2 (off2 + k) q2 (by simp)).trans d2
                      have d3' := (hE3.cell g3 (off3 + k * 2) q3 (by simp)).trans d3
                      have d4' := (hE3.cell g3 (off3 + k * 2 + 1) q3 (by simp)).trans d4
                      have q1' : g1 < X3.heap.size := Nat.lt_of_lt_of_le q1 hE3.size
                      have q2' : g2 < X3.heap.size := Nat.lt_of_lt_of_le q2 hE3.size
                      have q3' : g3 < X3.heap.size := Nat.lt_of_lt_of_le q3 hE3.size
                      have HB3' := Lib.hid (bgo HBK.out hE3.below)
                      have HS3' := Lib.hid (HSK.out.next hE3.below)
                      clear hE hF hE3 d1 d2 d3 d4 q1 q2 q3 hc hf hl lc lf ll
                      obtain ⟨hc, hf, hl⟩ := cells_of_block HS3'.out.b0
                      obtain ⟨lc, lf, ll⟩ := cells_of_block HS3'.out.bl
                      go_upto_region 44 with (fail)
                      refine wp_region_rg 33 [] none [] (by as_aux_lemma => kernel_rfl) (by as_aux_lemma => kernel_rfl) ?_
                      simp only [List.take_succ_cons, List.take_zero, List.drop_succ_cons, List.drop_zero]
                      repeat (first | (refine tree_det (by rfl) _ (by rfl) (fun W hW => by go_simp; (try simp (disch := omega) only [IntWalk.i64_in]); try rfl) ?_; simp only [Act.put, List.setIfInBounds_toArray, List.set_cons_succ, List.set_cons_zero]) | (refine tree_skip (by rfl) (by rfl) ?_; simp only [Act.put, List.setIfInBounds_toArray, List.set_cons_succ, List.set_cons_zero]))
                      intro X4 hE hF
                      have HB4' := Lib.hid (bgo HB3'.out (Ext.below (show Ext [] X3 X4 from hE)))
                      clear hE hF d1' d2' d3' d4' q1' q2' q3' hc hf hl lc lf ll
                      go_wp2_with fail
                      go_roundw
                      case rel => exact ⟨k + 1, by omega, by go_num, HB4'.out⟩
                      case measure => simp [intOf]; omega
                    · have hxy := hkp.1 rfl
                      rw [← hxy] at d2
                      have hxx : ¬ (x ≠ x) := by simp
                      clear hkp hxy
                      go_upto_region 43 with (fail)
                      refine wp_region_rg 11 [] none [] (by as_aux_lemma => kernel_rfl) (by as_aux_lemma => kernel_rfl) ?_
                      simp only [List.take_succ_cons, List.take_zero, List.drop_succ_cons, List.drop_zero]
                      repeat (first | (refine tree_det (by rfl) _ (by rfl) (fun W hW => by go_simp; (try simp (disch := omega) only [IntWalk.i64_in]); try rfl) ?_; simp only [Act.put, List.setIfInBounds_toArray, List.set_cons_succ, List.set_cons_zero]) | (refine tree_skip (by rfl) (by rfl) ?_; simp only [Act.put, List.setIfInBounds_toArray, List.set_cons_succ, List.set_cons_zero]))
                      intro X3 hE hF
                      have hE3 : Ext [] wr X3 := hE
                      have d1' := (hE3.cell g1 (off1 + k) q1 (by simp)).trans d1
                      have d2' := (hE3.cell g2 (off2 + k) q2 (by simp)).trans d2
                      have d3' := (hE3.cell g3 (off3 + k * 2) q3 (by simp)).trans d3
                      have d4' := (hE3.cell g3 (off3 + k * 2 + 1) q3 (by simp)).trans d4
                      have q1' : g1 < X3.heap.size := Nat.lt_of_lt_of_le q1 hE3.size
                      have q2' : g2 < X3.heap.size := Nat.lt_of_lt_of_le q2 hE3.size
                      have q3' : g3 < X3.heap.size := Nat.lt_of_lt_of_le q3 hE3.size
                      have HB3' := Lib.hid (bgo HBK.out hE3.below)
                      have HS3' := Lib.hid (HSK.out.next hE3.below)
                      clear hE hF hE3 d1 d2 d3 d4 q1 q2 q3 hc hf hl lc lf ll
                      obtain ⟨hc, hf, hl⟩ := cells_of_block HS3'.out.b0
                      obtain ⟨lc, lf, ll⟩ := cells_of_block HS3'.out.bl
                      go_upto_region 44 with (fail)
                      refine wp_region_rg 33 [] none [] (by as_aux_lemma => kernel_rfl) (by as_aux_lemma => kernel_rfl) ?_
                      simp only [List.take_succ_cons, List.take_zero, List.drop_succ_cons, List.drop_zero]
                      repeat (first | (refine tree_det (by rfl) _ (by rfl) (fun W hW => by go_simp; (try simp (disch := omega) only [IntWalk.i64_in]); try rfl) ?_; simp only [Act.put, List.setIfInBounds_toArray, List.set_cons_succ, List.set_cons_zero]) | (refine tree_skip (by rfl) (by rfl) ?_; simp only [Act.put, List.setIfInBounds_toArray, List.set_cons_succ, List.set_cons_zero]))
                      intro X4 hE hF
                      have HB4' := Lib.hid (bgo HB3'.out (Ext.below (show Ext [] X3 X4 from hE)))
                      clear hE hF d1' d2' d3' d4' q1' q2' q3' hc hf hl lc lf ll
                      go_wp2_with fail
                      go_roundw
                      case rel => exact ⟨k + 1, by omega, by go_num, HB4'.out⟩
                      case measure => simp [intOf]; omega
                · have hkn : k = nw := by omega
                  have hnlk : ¬ (k : Int) < f.weeders := by have := HNW.out; omega
                  subst hkn
                  clear hv1 hv2
                  go_wp2_with fail
                  refine (answered_any _).mono ?_
                  rintro e Wn ⟨rfl, hb⟩
                  have HBn := Lib.hid (bgo HSK.out.below hb)
                  clear hb
                  go_wp2_with fail
                  go_returns
                  exact ⟨by simp, HBn.out⟩
end Go.Proofs.Ytdjgikcnmokjkaa
