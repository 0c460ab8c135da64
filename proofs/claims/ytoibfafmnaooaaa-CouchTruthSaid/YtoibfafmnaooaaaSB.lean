/-
  The walk of CouchFirst: whatever the heap, it returns true; nothing that was there has turned.
  The walk of CouchLeft: whatever the heap and the list by bits, it returns true; nothing that was there has turned.
  Contracts of the reference: Heat, Right. Contracts of the reference: IsListed, IsTruth; of the law: fault, Truth. Contracts of the reference: IsTruth; of the law: Truth.
-/
import Derived.WalkKit
import Derived.WalkLawsBesides
import Derived.WalkSpells
import Derived.Outline
import Derived.Handy
import Derived.KernelRfl
import Derived.Lib.Hide
import Derived.Test.YtoibfafmnaooaaaWE
import Derived.Test.YtoibfafmnaooaaaSA
namespace Go.Proofs.Ytoibfafmnaooaaa
open Go.RowKit Go.RG Go.SL Go.Shelf Cou
set_option maxHeartbeats 400000
set_option maxRecDepth 10000

theorem ask_of {h : HeapD} (hS : Sound h) : askErr h [] = if (truthsL h []).isEmpty then 11 else 0 := by
  unfold askErr
  rw [if_neg (by rw [fault_sound hS]; simp), if_neg (by simp [isTurns, turnsFrom])]
theorem ask_ok {h : HeapD} (hS : Sound h) (ht : (truthsL h []).isEmpty = false) : askErr h [] = 0 := by rw [ask_of hS, ht]; rfl
theorem ask_no {h : HeapD} (hS : Sound h) (ht : (truthsL h []).isEmpty = true) : askErr h [] = 11 := by rw [ask_of hS, ht]; rfl

theorem pow_cast (n : Nat) : (2 : Int) ^ n - 1 = ((2 ^ n - 1 : Nat) : Int) := by
  have := Nat.one_le_two_pow (n := n)
  rw [Int.natCast_sub this]
  simp
theorem pow_cast2 (n : Nat) : 2 * (2 : Int) ^ n - 1 = ((2 ^ (n + 1) - 1 : Nat) : Int) := by
  rw [← pow_cast, Int.pow_succ]
  omega
theorem some_at (h : HeapD) (wv tv xv' : Value) (bits : Int) (m : Nat) (w : World) (hb : bits = (m : Int)) (hw : PairsAt w wv h.wet) (ht : IntsAt w tv h.turns) (hx : TriplesAt w xv' h.readings) (hl : h.readings.length ≤ 7) (hm : bits ≤ 1000) :
    Calls Try.prog 46 #[hv h wv tv xv', iv bits] w (PSome h m wv tv w) := by
  subst hb
  exact lawSome_any h wv tv xv' m w hw ht hx hl hm

set_option maxHeartbeats 4000000 in
theorem CouchFirst_any (h : HeapD) (wv tv xv' : Value) (w : World) (hw : PairsAt w wv h.wet) (ht : IntsAt w tv h.turns) (hx : TriplesAt w xv' h.readings) :
    Calls Try.prog 10 #[hv h wv tv xv'] w (PV (.bool true) w) := by
  obtain ⟨ow, cw, rfl⟩ := hw.open
  obtain ⟨ot, ct, rfl⟩ := ht.open
  obtain ⟨ox, cx, rfl⟩ := hx.open
  have HW := Lib.hid hw
  have HT := Lib.hid ht
  have HX := Lib.hid hx
  clear hw ht hx
  have HB0 := Lib.hid (Below.refl (w.alloc (.cells #[.int .i64 h.last, .int .i64 h.size, .int .i64 h.cool, .int .i64 h.die, .int .i64 h.burn, .int .i64 h.start.1, .int .i64 h.start.2, .slice ow h.wet.length cw, .slice ot h.turns.length ct, .slice ox h.readings.length cx] 28)).heap.size (w.alloc (.cells #[.int .i64 h.last, .int .i64 h.size, .int .i64 h.cool, .int .i64 h.die, .int .i64 h.burn, .int .i64 h.start.1, .int .i64 h.start.2, .slice ow h.wet.length cw, .slice ot h.turns.length ct, .slice ox h.readings.length cx] 28)))
  cases hr : readyB h
  case false =>
    have HR := Lib.hid hr
    clear hr
    go_enter Try.func10, Try.ntmps10
    go_wp2_with fail
    refine (ready_any h _ _ _ _ ((HW.out.alloc _).below HB0.out (Nat.le_refl _)) ((HT.out.alloc _).below HB0.out (Nat.le_refl _)) ((HX.out.alloc _).below HB0.out (Nat.le_refl _))).mono ?_
    rw [HR.out]
    rintro e W1 ⟨rfl, hb⟩
    (try clear hcr hsr)
    have HD1 := Lib.hid hb
    have HB1 := Lib.hid (bgo HB0.out hb)
    obtain ⟨hcr, _, hsr⟩ := cells_of_block ((HB1.out.block w.heap.size (by simp)).trans (heap_new0 w _))
    clear hb
    go_wp2_with fail
    refine (awake_any _).mono ?_
    rintro e W2 ⟨rfl, hb⟩
    (try clear hcr hsr)
    have HD2 := Lib.hid hb
    have HB2 := Lib.hid (bgo HB1.out hb)
    obtain ⟨hcr, _, hsr⟩ := cells_of_block ((HB2.out.block w.heap.size (by simp)).trans (heap_new0 w _))
    clear hb
    go_wp2_with fail
    go_returns
    exact ⟨by simp, bgo (bgoAlloc (Below.refl _ _) _) HB2.out⟩
  case true =>
    obtain ⟨hS, hf0, _, hl12⟩ := ready_sound hr
    have hw10 : h.wet.length ≤ 10 := by have := hS.wetLen; have := hS.last9; omega
    have hx5 := hS.rdgs
    have HR := Lib.hid hr
    have HS := Lib.hid hS
    have HF0 := Lib.hid hf0
    clear hr hS hf0
    cases hfs : firstS h with
    | none =>
      have HE := Lib.hid (show firstV h = 0 ∧ firstE h = 7 ∧ askErr h [] = 0 from ⟨by simp [firstV, HF0.out, hfs, optV], by simp [firstE, HF0.out, hfs, optE], ask_ok HS.out (first_none HS.out hfs)⟩)
      clear hfs
      go_enter Try.func10, Try.ntmps10
      go_wp2_with fail
      refine (ready_any h _ _ _ _ ((HW.out.alloc _).below HB0.out (Nat.le_refl _)) ((HT.out.alloc _).below HB0.out (Nat.le_refl _)) ((HX.out.alloc _).below HB0.out (Nat.le_refl _))).mono ?_
      rw [HR.out]
      rintro e W1 ⟨rfl, hb⟩
      (try clear hcr hsr)
      have HD1 := Lib.hid hb
      have HB1 := Lib.hid (bgo HB0.out hb)
      obtain ⟨hcr, _, hsr⟩ := cells_of_block ((HB1.out.block w.heap.size (by simp)).trans (heap_new0 w _))
      clear hb
      go_wp2_with fail
      refine (Heap_any h _ _ _ _ ((HW.out.alloc _).below HB1.out (Nat.le_refl _)) ((HT.out.alloc _).below HB1.out (Nat.le_refl _)) ((HX.out.alloc _).below HB1.out (Nat.le_refl _)) (by omega) (by omega) (by omega)).mono ?_
      rintro e W2 ⟨a2, b2, c2, rfl, h1, h2, h3, hb⟩
      (try clear hcr hsr)
      have HD2 := Lib.hid hb
      have HB2 := Lib.hid (bgo HB1.out hb)
      obtain ⟨hcr, _, hsr⟩ := cells_of_block ((HB2.out.block w.heap.size (by simp)).trans (heap_new0 w _))
      clear hb
      have HH2 := Lib.hid (And.intro h1 (And.intro h2 h3))
      clear h1 h2 h3
      go_wp2_with fail
      refine (First_any h _ _ _ _ HH2.out.1 HH2.out.2.1 HH2.out.2.2).mono ?_
      rintro e W3 ⟨rfl, hb⟩
      rw [HE.out.1, HE.out.2.1]
      (try clear hcr hsr)
      have HD3 := Lib.hid hb
      have HB3 := Lib.hid (bgo HB2.out hb)
      obtain ⟨hcr, _, hsr⟩ := cells_of_block ((HB3.out.block w.heap.size (by simp)).trans (heap_new0 w _))
      clear hb
      go_wp2_with fail
      refine (Heap_any h _ _ _ _ ((HW.out.alloc _).below HB3.out (Nat.le_refl _)) ((HT.out.alloc _).below HB3.out (Nat.le_refl _)) ((HX.out.alloc _).below HB3.out (Nat.le_refl _)) (by omega) (by omega) (by omega)).mono ?_
      rintro e W4 ⟨a4, b4, c4, rfl, h1, h2, h3, hb⟩
      (try clear hcr hsr)
      have HD4 := Lib.hid hb
      have HB4 := Lib.hid (bgo HB3.out hb)
      obtain ⟨hcr, _, hsr⟩ := cells_of_block ((HB4.out.block w.heap.size (by simp)).trans (heap_new0 w _))
      clear hb
      have HH4 := Lib.hid (And.intro h1 (And.intro h2 h3))
      clear h1 h2 h3
      go_wp2_with fail
      refine (Bounds_any h _ _ _ (.slice none 0 0) [] _ HH4.out.1 HH4.out.2.1 HH4.out.2.2 (ints_nil _)).mono ?_
      rintro e W5 ⟨v, rfl, _, hb⟩
      rw [HE.out.2.2]
      (try clear hcr hsr)
      have HD5 := Lib.hid hb
      have HB5 := Lib.hid (bgo HB4.out hb)
      obtain ⟨hcr, _, hsr⟩ := cells_of_block ((HB5.out.block w.heap.size (by simp)).trans (heap_new0 w _))
      clear hb
      go_wp2_with fail
      refine (awake_any _).mono ?_
      rintro e W6 ⟨rfl, hb⟩
      (try clear hcr hsr)
      have HD6 := Lib.hid hb
      have HB6 := Lib.hid (bgo HB5.out hb)
      obtain ⟨hcr, _, hsr⟩ := cells_of_block ((HB6.out.block w.heap.size (by simp)).trans (heap_new0 w _))
      clear hb
      go_wp2_with fail
      go_returns
      exact ⟨by simp, bgo (bgoAlloc (Below.refl _ _) _) HB6.out⟩
    | some n =>
      obtain ⟨hn, ht1, ht2⟩ := first_some HS.out hfs
      rw [← someH_take h n (by omega)] at ht1
      rw [← someH_take h (n + 1) (by omega)] at ht2
      have HE := Lib.hid (show firstV h = (n : Int) ∧ firstE h = 0 ∧ askErr (someH h (2 ^ n - 1)) [] = 0 ∧ askErr (someH h (2 ^ (n + 1) - 1)) [] = 11 from
        ⟨by simp [firstV, HF0.out, hfs, optV], by simp [firstE, HF0.out, hfs, optE], ask_ok (some_sound HS.out _) ht1, ask_no (some_sound HS.out _) ht2⟩)
      clear hfs ht1 ht2
      have hnI : (n : Int) ≤ (h.readings.length : Int) - 1 := by omega
      have hn5 : n ≤ 5 := by omega
      obtain ⟨hp1, hp2⟩ := pow_bd hn5
      have hin : inB (n : Int) 0 ((h.readings.length : Int) - 1) = true := by simp [inB]; omega
      go_enter Try.func10, Try.ntmps10
      go_wp2_with fail
      refine (ready_any h _ _ _ _ ((HW.out.alloc _).below HB0.out (Nat.le_refl _)) ((HT.out.alloc _).below HB0.out (Nat.le_refl _)) ((HX.out.alloc _).below HB0.out (Nat.le_refl _))).mono ?_
      rw [HR.out]
      rintro e W1 ⟨rfl, hb⟩
      (try clear hcr hsr)
      have HD1 := Lib.hid hb
      have HB1 := Lib.hid (bgo HB0.out hb)
      obtain ⟨hcr, _, hsr⟩ := cells_of_block ((HB1.out.block w.heap.size (by simp)).trans (heap_new0 w _))
      clear hb
      go_wp2_with fail
      refine (Heap_any h _ _ _ _ ((HW.out.alloc _).below HB1.out (Nat.le_refl _)) ((HT.out.alloc _).below HB1.out (Nat.le_refl _)) ((HX.out.alloc _).below HB1.out (Nat.le_refl _)) (by omega) (by omega) (by omega)).mono ?_
      rintro e W2 ⟨a2, b2, c2, rfl, h1, h2, h3, hb⟩
      (try clear hcr hsr)
      have HD2 := Lib.hid hb
      have HB2 := Lib.hid (bgo HB1.out hb)
      obtain ⟨hcr, _, hsr⟩ := cells_of_block ((HB2.out.block w.heap.size (by simp)).trans (heap_new0 w _))
      clear hb
      have HH2 := Lib.hid (And.intro h1 (And.intro h2 h3))
      clear h1 h2 h3
      go_wp2_with fail
      refine (First_any h _ _ _ _ HH2.out.1 HH2.out.2.1 HH2.out.2.2).mono ?_
      rintro e W3 ⟨rfl, hb⟩
      rw [HE.out.1, HE.out.2.1]
      (try clear hcr hsr)
      have HD3 := Lib.hid hb
      have HB3 := Lib.hid (bgo HB2.out hb)
      obtain ⟨hcr, _, hsr⟩ := cells_of_block ((HB3.out.block w.heap.size (by simp)).trans (heap_new0 w _))
      clear hb
      go_wp2_with fail
      refine (In_any _ _ _ _).mono ?_
      rw [hin]
      rintro e W4 ⟨rfl, hb⟩
      (try clear hcr hsr)
      have HD4 := Lib.hid hb
      have HB4 := Lib.hid (bgo HB3.out hb)
      obtain ⟨hcr, _, hsr⟩ := cells_of_block ((HB4.out.block w.heap.size (by simp)).trans (heap_new0 w _))
      clear hb
      go_wp2_with fail
      refine (some_at h _ _ _ (2 ^ n - 1) (2 ^ n - 1) _ (pow_cast n) ((HW.out.alloc _).below HB4.out (Nat.le_refl _)) ((HT.out.alloc _).below HB4.out (Nat.le_refl _)) ((HX.out.alloc _).below HB4.out (Nat.le_refl _)) (by omega) (by omega)).mono ?_
      rintro e W5 ⟨c5, rfl, hc5, hb⟩
      (try clear hcr hsr)
      have HD5 := Lib.hid hb
      have HB5 := Lib.hid (bgo HB4.out hb)
      obtain ⟨hcr, _, hsr⟩ := cells_of_block ((HB5.out.block w.heap.size (by simp)).trans (heap_new0 w _))
      clear hb
      have HC5 := Lib.hid hc5
      clear hc5
      go_wp2_with fail
      refine (Heap_any (someH h (2 ^ n - 1)) _ _ _ _ ((HW.out.alloc _).below HB5.out (Nat.le_refl _)) ((HT.out.alloc _).below HB5.out (Nat.le_refl _)) HC5.out (by show h.wet.length ≤ 1000; omega) (by show h.turns.length ≤ 1000; omega) (by have := someTo_len (2 ^ n - 1) h.readings.length h.readings; show (someTo (2 ^ n - 1) h.readings h.readings.length).length ≤ 1000; omega)).mono ?_
      rintro e W6 ⟨a6, b6, c6, rfl, h1, h2, h3, hb⟩
      (try clear hcr hsr)
      have HD6 := Lib.hid hb
      have HB6 := Lib.hid (bgo HB5.out hb)
      obtain ⟨hcr, _, hsr⟩ := cells_of_block ((HB6.out.block w.heap.size (by simp)).trans (heap_new0 w _))
      clear hb
      have HH6 := Lib.hid (And.intro h1 (And.intro h2 h3))
      clear h1 h2 h3
      go_wp2_with fail
      refine (Bounds_any (someH h (2 ^ n - 1)) _ _ _ (.slice none 0 0) [] _ HH6.out.1 HH6.out.2.1 HH6.out.2.2 (ints_nil _)).mono ?_
      rintro e W7 ⟨v, rfl, _, hb⟩
      rw [HE.out.2.2.1]
      (try clear hcr hsr)
      have HD7 := Lib.hid hb
      have HB7 := Lib.hid (bgo HB6.out hb)
      obtain ⟨hcr, _, hsr⟩ := cells_of_block ((HB7.out.block w.heap.size (by simp)).trans (heap_new0 w _))
      clear hb
      go_wp2_with fail
      refine (some_at h _ _ _ (2 * 2 ^ n - 1) (2 ^ (n + 1) - 1) _ (pow_cast2 n) ((HW.out.alloc _).below HB7.out (Nat.le_refl _)) ((HT.out.alloc _).below HB7.out (Nat.le_refl _)) ((HX.out.alloc _).below HB7.out (Nat.le_refl _)) (by omega) (by omega)).mono ?_
      rintro e W8 ⟨c8, rfl, hc8, hb⟩
      (try clear hcr hsr)
      have HD8 := Lib.hid hb
      have HB8 := Lib.hid (bgo HB7.out hb)
      obtain ⟨hcr, _, hsr⟩ := cells_of_block ((HB8.out.block w.heap.size (by simp)).trans (heap_new0 w _))
      clear hb
      have HC8 := Lib.hid hc8
      clear hc8
      go_wp2_with fail
      refine (Heap_any (someH h (2 ^ (n + 1) - 1)) _ _ _ _ ((HW.out.alloc _).below HB8.out (Nat.le_refl _)) ((HT.out.alloc _).below HB8.out (Nat.le_refl _)) HC8.out (by show h.wet.length ≤ 1000; omega) (by show h.turns.length ≤ 1000; omega) (by have := someTo_len (2 ^ (n + 1) - 1) h.readings.length h.readings; show (someTo (2 ^ (n + 1) - 1) h.readings h.readings.length).length ≤ 1000; omega)).mono ?_
      rintro e W9 ⟨a9, b9, c9, rfl, h1, h2, h3, hb⟩
      (try clear hcr hsr)
      have HD9 := Lib.hid hb
      have HB9 := Lib.hid (bgo HB8.out hb)
      obtain ⟨hcr, _, hsr⟩ := cells_of_block ((HB9.out.block w.heap.size (by simp)).trans (heap_new0 w _))
      clear hb
      have HH9 := Lib.hid (And.intro h1 (And.intro h2 h3))
      clear h1 h2 h3
      go_wp2_with fail
      refine (Bounds_any (someH h (2 ^ (n + 1) - 1)) _ _ _ (.slice none 0 0) [] _ HH9.out.1 HH9.out.2.1 HH9.out.2.2 (ints_nil _)).mono ?_
      rintro e W10 ⟨v, rfl, _, hb⟩
      rw [HE.out.2.2.2]
      (try clear hcr hsr)
      have HD10 := Lib.hid hb
      have HB10 := Lib.hid (bgo HB9.out hb)
      obtain ⟨hcr, _, hsr⟩ := cells_of_block ((HB10.out.block w.heap.size (by simp)).trans (heap_new0 w _))
      clear hb
      go_wp2_with fail
      refine (awake_any _).mono ?_
      rintro e W11 ⟨rfl, hb⟩
      (try clear hcr hsr)
      have HD11 := Lib.hid hb
      have HB11 := Lib.hid (bgo HB10.out hb)
      obtain ⟨hcr, _, hsr⟩ := cells_of_block ((HB11.out.block w.heap.size (by simp)).trans (heap_new0 w _))
      clear hb
      go_wp2_with fail
      go_returns
      exact ⟨by simp, bgo (bgoAlloc (Below.refl _ _) _) HB11.out⟩

end Go.Proofs.Ytoibfafmnaooaaa

namespace Go.Proofs.Ytoibfafmnaooaaa
open Go.RowKit Go.RG Go.SL Go.Shelf Cou
set_option maxHeartbeats 400000
set_option maxRecDepth 10000

theorem wraps63 (n : Int) (h₀ : 0 ≤ n) (h₁ : n < 2 ^ 63) : IntKind.i64.wrap n = n := by
  exact IntWalk.i64_in _ (by omega)

theorem and_nat (a b : Nat) (ha : a < 2 ^ 63) (hb : b < 2 ^ 63) : bits .and .i64 (a : Int) (b : Int) = ((a &&& b : Nat) : Int) := (bits_nat .i64 63 (by decide) wraps63 a b ha hb).1
theorem or_nat (a b : Nat) (ha : a < 2 ^ 63) (hb : b < 2 ^ 63) : bits .or .i64 (a : Int) (b : Int) = ((a ||| b : Nat) : Int) := (bits_nat .i64 63 (by decide) wraps63 a b ha hb).2

theorem bv_ofInt (a : Nat) : BitVec.ofInt 64 (a : Int) = BitVec.ofNat 64 a := by
  apply BitVec.eq_of_toNat_eq
  simp

theorem andNot_nat (a b : Nat) (ha : a < 2 ^ 63) : ∃ c : Nat, bits .andNot .i64 (a : Int) (b : Int) = (c : Int) ∧ c ≤ a ∧ ∀ i, c.testBit i = (a.testBit i && !b.testBit i) := by
  have key : ∀ i, (BitVec.ofNat 64 a &&& ~~~BitVec.ofNat 64 b).toNat.testBit i = (a.testBit i && !b.testBit i) := by
    intro i
    rw [BitVec.testBit_toNat, BitVec.getLsbD_and, BitVec.getLsbD_not]
    simp only [BitVec.getLsbD_ofNat]
    by_cases hi : i < 64
    · simp [hi]
    · have : a.testBit i = false := Nat.testBit_lt_two_pow (Nat.lt_of_lt_of_le ha (Nat.pow_le_pow_right (by omega) (by omega)))
      simp [hi, this]
  have hle : (BitVec.ofNat 64 a &&& ~~~BitVec.ofNat 64 b).toNat ≤ a := by
    rw [BitVec.toNat_and, BitVec.toNat_ofNat, Nat.mod_eq_of_lt (by omega)]
    exact Nat.and_le_left
  refine ⟨(BitVec.ofNat 64 a &&& ~~~BitVec.ofNat 64 b).toNat, ?_, hle, key⟩
  show IntKind.i64.wrap ((BitVec.ofInt 64 (a : Int) &&& ~~~BitVec.ofInt 64 (b : Int)).toNat : Int) = _
  rw [bv_ofInt, bv_ofInt]
  exact wraps63 _ (by omega) (by omega)

theorem hv_inj {h : HeapD} {a b c a' b' c' : Value} (he : hv h a b c = hv h a' b' c') : a = a' ∧ b = b' ∧ c = c' := by
  simp only [Value.agg.injEq, Array.mk.injEq, List.cons.injEq, and_true, true_and] at he
  exact he

/-- What the law needs of the smallest set. -/
theorem left_plain {h : HeapD} (hS : Sound h) (tr : Nat) : ∃ c, leaveL h = c ∧ Inc h.readings.length 0 c ∧
    (∀ b m : Nat, (∀ j, b.testBit j = c.contains (j : Int)) → (∀ i, m.testBit i = ((2 ^ h.readings.length - 1).testBit i && !b.testBit i)) → askErr (someH h m) [] = 0) ∧
    (∀ m : Nat, (∀ i, m.testBit i = ((2 ^ h.readings.length - 1).testBit i && !(tr &&& (2 ^ h.readings.length - 1)).testBit i)) →
      askErr (someH h m) [] = 11 ∨ (askErr (someH h m) [] = 0 ∧ shorter (bitsL (tr &&& (2 ^ h.readings.length - 1))) c = false)) := by
  obtain ⟨c, hc, h1, h2, h3⟩ := leave_some hS
  refine ⟨c, hc, h2, fun b m hb hm => ?_, fun m hm => ?_⟩
  · refine ask_ok (some_sound hS m) ?_
    rw [can_some (m := m) (fun i hi => by rw [hm, Nat.testBit_two_pow_sub_one, hb, decide_eq_true hi, Bool.true_and])] at h1
    simpa using h1
  · have hlt : tr &&& (2 ^ h.readings.length - 1) < 2 ^ h.readings.length := by
      have : tr &&& (2 ^ h.readings.length - 1) ≤ 2 ^ h.readings.length - 1 := Nat.and_le_right
      have := Nat.one_le_two_pow (n := h.readings.length)
      omega
    have hcan := can_some (h := h) (m := m) (out := bitsL (tr &&& (2 ^ h.readings.length - 1))) (fun i hi => by
      rw [hm, Nat.testBit_two_pow_sub_one, decide_eq_true hi, Bool.true_and, bitsL_eq hlt]
      congr 1
      rw [Bool.eq_iff_iff, List.contains_iff_mem, mem_bitsTo]
      exact ⟨fun e => ⟨i, hi, e, rfl⟩, fun ⟨j, _, e, ej⟩ => by rw [show i = j from by omega]; exact e⟩)
    cases ht : (truthsL (someH h m) []).isEmpty
    · right
      refine ⟨ask_ok (some_sound hS m) ht, h3 _ ?_ (by rw [hcan, ht]; rfl)⟩
      rw [bitsL_eq hlt]
      exact inc_bitsTo _ _
    · exact .inl (ask_no (some_sound hS m) ht)

theorem Full_nat (h : HeapD) (wv tv xv' : Value) (w : World) (hx : TriplesAt w xv' h.readings) (hr : h.readings.length ≤ 5) :
    Calls Try.prog 47 #[hv h wv tv xv'] w (PV (iv ((2 ^ h.readings.length - 1 : Nat) : Int)) w) := by
  rw [← pow_cast]
  exact Full_any h wv tv xv' w hx hr

theorem inc_at {p : Nat} {c : List Int} (h : Inc p 0 c) {k : Nat} (hk : k < c.length) : ∃ n : Nat, c[k] = (n : Int) ∧ n < p := by
  have := ((inc_pairwise _ _).1 h).2 c[k] (List.getElem_mem hk)
  exact ⟨c[k].toNat, by omega, by omega⟩
theorem inc_step {p : Nat} {c : List Int} (h : Inc p 0 c) {k : Nat} (hk : k + 1 < c.length) : c[k] < c[k + 1] :=
  List.pairwise_iff_getElem.1 ((inc_pairwise _ _).1 h).1 k (k + 1) (by omega) hk (by omega)

theorem or_take {c : List Int} {b n k : Nat} (hk : k < c.length) (hn : c[k] = (n : Int)) (hb : ∀ j, b.testBit j = (c.take k).contains (j : Int)) (j : Nat) : (b ||| 2 ^ n).testBit j = (c.take (k + 1)).contains (j : Int) := by
  rw [Nat.testBit_or, hb, Nat.testBit_two_pow, List.take_succ_eq_append_getElem hk, hn, Bool.eq_iff_iff]
  simp only [Bool.or_eq_true, List.contains_iff_mem, List.mem_append, List.mem_singleton, decide_eq_true_eq]
  constructor
  · rintro (h | h)
    · exact .inl h
    · exact .inr (by omega)
  · rintro (h | h)
    · exact .inl h
    · exact .inr (by omega)

set_option maxHeartbeats 4000000 in
theorem CouchLeft_any (h : HeapD) (wv tv xv' : Value) (tr : Nat) (w : World) (hw : PairsAt w wv h.wet) (ht : IntsAt w tv h.turns) (hx : TriplesAt w xv' h.readings) (htr : (tr : Int) ≤ 255) :
    Calls Try.prog 11 #[hv h wv tv xv', .int .u8 tr] w (PV (.bool true) w) := by
  obtain ⟨ow, cw, rfl⟩ := hw.open
  obtain ⟨ot, ct, rfl⟩ := ht.open
  obtain ⟨ox, cx, rfl⟩ := hx.open
  have HW := Lib.hid hw
  have HT := Lib.hid ht
  have HX := Lib.hid hx
  clear hw ht hx
  have HB0 := Lib.hid (Below.refl (w.alloc (.cells #[.int .i64 h.last, .int .i64 h.size, .int .i64 h.cool, .int .i64 h.die, .int .i64 h.burn, .int .i64 h.start.1, .int .i64 h.start.2, .slice ow h.wet.length cw, .slice ot h.turns.length ct, .slice ox h.readings.length cx] 28)).heap.size (w.alloc (.cells #[.int .i64 h.last, .int .i64 h.size, .int .i64 h.cool, .int .i64 h.die, .int .i64 h.burn, .int .i64 h.start.1, .int .i64 h.start.2, .slice ow h.wet.length cw, .slice ot h.turns.length ct, .slice ox h.readings.length cx] 28)))
  cases hr : readyB h
  case false =>
    have HR := Lib.hid hr
    clear hr
    go_enter Try.func11, Try.ntmps11
    go_wp2_with fail
    refine (ready_any h _ _ _ _ ((HW.out.alloc _).below HB0.out (Nat.le_refl _)) ((HT.out.alloc _).below HB0.out (Nat.le_refl _)) ((HX.out.alloc _).below HB0.out (Nat.le_refl _))).mono ?_
    rw [HR.out]
    rintro e W1 ⟨rfl, hb⟩
    (try clear hcr hsr)
    have HD1 := Lib.hid hb
    have HB1 := Lib.hid (bgo HB0.out hb)
    obtain ⟨hcr, _, hsr⟩ := cells_of_block ((HB1.out.block w.heap.size (by simp)).trans (heap_new0 w _))
    clear hb
    go_wp2_with fail
    refine (awake_any _).mono ?_
    rintro e W2 ⟨rfl, hb⟩
    (try clear hcr hsr)
    have HD2 := Lib.hid hb
    have HB2 := Lib.hid (bgo HB1.out hb)
    obtain ⟨hcr, _, hsr⟩ := cells_of_block ((HB2.out.block w.heap.size (by simp)).trans (heap_new0 w _))
    clear hb
    go_wp2_with fail
    go_returns
    exact ⟨by simp, bgo (bgoAlloc (Below.refl _ _) _) HB2.out⟩
  case true =>
    obtain ⟨hS, hf0, _, hl12⟩ := ready_sound hr
    have hw10 : h.wet.length ≤ 10 := by have := hS.wetLen; have := hS.last9; omega
    have hx5 := hS.rdgs
    obtain ⟨c, hc, hinc, hP1, hP2⟩ := left_plain hS tr
    have hclen : c.length ≤ h.readings.length := by have := hinc.len; omega
    have HR := Lib.hid hr
    have HS := Lib.hid hS
    have HF0 := Lib.hid hf0
    have HC := Lib.hid hc
    have HI := Lib.hid hinc
    have HP1 := Lib.hid hP1
    have HP2 := Lib.hid hP2
    clear hr hS hf0 hc hinc hP1 hP2
    go_enter Try.func11, Try.ntmps11
    go_wp2_with fail
    refine (ready_any h _ _ _ _ ((HW.out.alloc _).below HB0.out (Nat.le_refl _)) ((HT.out.alloc _).below HB0.out (Nat.le_refl _)) ((HX.out.alloc _).below HB0.out (Nat.le_refl _))).mono ?_
    rw [HR.out]
    rintro e W1 ⟨rfl, hb⟩
    (try clear hcr hsr)
    have HD1 := Lib.hid hb
    have HB1 := Lib.hid (bgo HB0.out hb)
    obtain ⟨hcr, _, hsr⟩ := cells_of_block ((HB1.out.block w.heap.size (by simp)).trans (heap_new0 w _))
    clear hb
    go_wp2_with fail
    refine (Heap_any h _ _ _ _ ((HW.out.alloc _).below HB1.out (Nat.le_refl _)) ((HT.out.alloc _).below HB1.out (Nat.le_refl _)) ((HX.out.alloc _).below HB1.out (Nat.le_refl _)) (by omega) (by omega) (by omega)).mono ?_
    rintro e W2 ⟨a2, b2, c2, rfl, h1, h2, h3, hb⟩
    (try clear hcr hsr)
    have HD2 := Lib.hid hb
    have HB2 := Lib.hid (bgo HB1.out hb)
    obtain ⟨hcr, _, hsr⟩ := cells_of_block ((HB2.out.block w.heap.size (by simp)).trans (heap_new0 w _))
    clear hb
    have HH2 := Lib.hid (And.intro h1 (And.intro h2 h3))
    clear h1 h2 h3
    go_wp2_with fail
    refine (Leave_any h _ _ _ _ HH2.out.1 HH2.out.2.1 HH2.out.2.2).mono ?_
    rintro e W3 ⟨v, rfl, hv, hb⟩
    rw [HC.out] at hv
    rw [HF0.out]
    (try clear hcr hsr)
    have HD3 := Lib.hid hb
    have HB3 := Lib.hid (bgo HB2.out hb)
    obtain ⟨hcr, _, hsr⟩ := cells_of_block ((HB3.out.block w.heap.size (by simp)).trans (heap_new0 w _))
    clear hb
    obtain ⟨vo, vc, rfl⟩ := hv.open
    have HV := Lib.hid hv
    clear hv
    go_wp2_with fail
    clear hcr hsr
    go_loopw [7, 8] (fun u i wr => ∃ k : Nat, k ≤ c.length ∧ i = .int .i64 k ∧ ∃ b : Nat, u = .int .i64 b ∧ b ≤ 31 ∧ (∀ j, b.testBit j = (c.take k).contains (j : Int)) ∧ Below W3.heap.size W3 wr) (fun _ i _ => c.length - (intOf i).toNat)
    case atStart => exact ⟨0, Nat.zero_le _, rfl, 0, rfl, by omega, fun j => by simp, Below.refl _ _⟩
    case round =>
      obtain ⟨k, hk, rfl, b, rfl, hb31, hbits, hB⟩ := hrel
      obtain ⟨hcr, _, hsr⟩ := cells_of_block (((bgo HB3.out hB).block w.heap.size (by simp)).trans (heap_new0 w _))
      have hHV := HV.out.below hB (Nat.le_refl _)
      have HBI := Lib.hid hbits
      have HB := Lib.hid hB
      clear hbits hB
      have hb31I : (b : Int) ≤ 31 := by omega
      by_cases hlt : k < c.length
      · obtain ⟨bb, off, rfl, hb1, d1⟩ := IntsAt.cell hHV hlt
        obtain ⟨n, hn, hn5⟩ := inc_at HI.out hlt
        have hltI : (k : Int) < c.length := by omega
        have hnI : (n : Int) < h.readings.length := by omega
        obtain ⟨hp1, hp2⟩ := pow_bd (show n ≤ 4 by omega)
        have hp1N : 1 ≤ 2 ^ n := Nat.one_le_two_pow
        have hp2N : 2 ^ n ≤ 2 ^ 4 := Nat.pow_le_pow_right (by omega) (by omega)
        have hor : bits .or .i64 (b : Int) (2 ^ n) = ((b ||| 2 ^ n : Nat) : Int) := by
          have := or_nat b (2 ^ n) (by omega) (by omega)
          simpa using this
        have hnew : b ||| 2 ^ n < 2 ^ 5 := Nat.or_lt_two_pow (by omega) (by omega)
        have HNB := Lib.hid (show ∀ j, (b ||| 2 ^ n).testBit j = (c.take (k + 1)).contains (j : Int) from or_take hlt hn HBI.out)
        have hd1 : decide ((n : Int) < 0) = false := by simp
        have hd2 : decide (h.readings.length ≤ n) = false := by simp; omega
        clear hHV
        cases k with
        | zero =>
          rw [hn] at d1
          simp only [Nat.add_zero] at d1
          have HN := Lib.hid hn
          clear hn
          go_wp2_with fail
          refine wp_region_rg 31 [] none [] (by kernel_rfl) (by kernel_rfl) ?_
          simp only [List.take_succ_cons, List.take_zero, List.drop_succ_cons, List.drop_zero]
          repeat (first | (refine tree_det (by rfl) _ (by rfl) (fun W hW => by go_simp; (try simp (disch := omega) only [IntWalk.i64_in]); try rfl) ?_; simp only [Act.put, List.setIfInBounds_toArray, List.set_cons_succ, List.set_cons_zero]) | (refine tree_skip (by rfl) (by rfl) ?_; simp only [Act.put, List.setIfInBounds_toArray, List.set_cons_succ, List.set_cons_zero]))
          intro W hE hF
          obtain ⟨hc, hf⟩ := bcell hE.below
          have hzE := hE.size
          (try simp only [World.size_alloc] at hzE)
          have HE := Lib.hid hE
          clear hE hF
          go_wp2_with fail
          go_roundw
          case rel => exact ⟨1, by omega, by go_num, b ||| 2 ^ n, rfl, by omega, HNB.out, bgo HB.out HE.out.below⟩
          case measure => simp [intOf]; omega
        | succ m =>
          have hm : m < c.length := by omega
          obtain ⟨bb', off', he, _, d2⟩ := IntsAt.cell (HV.out.below HB.out (Nat.le_refl _)) hm
          cases he
          have hst := inc_step HI.out hlt
          rw [hn] at hst d1
          generalize c[m] = y at *
          have hd3 : decide ((n : Int) ≤ y) = false := by simp; omega
          clear hst
          have HN := Lib.hid hn
          have hmI : (m : Int) < c.length := by omega
          have hsub : ((m + 1 : Nat) : Int) - 1 = (m : Int) := by omega
          clear hn
          go_wp2_with fail
          refine wp_region_rg 31 [] none [] (by kernel_rfl) (by kernel_rfl) ?_
          simp only [List.take_succ_cons, List.take_zero, List.drop_succ_cons, List.drop_zero]
          repeat (first | (refine tree_det (by rfl) _ (by rfl) (fun W hW => by go_simp; (try simp (disch := omega) only [IntWalk.i64_in]); try rfl) ?_; simp only [Act.put, List.setIfInBounds_toArray, List.set_cons_succ, List.set_cons_zero]) | (refine tree_skip (by rfl) (by rfl) ?_; simp only [Act.put, List.setIfInBounds_toArray, List.set_cons_succ, List.set_cons_zero]))
          intro W hE hF
          obtain ⟨hc, hf⟩ := bcell hE.below
          have hzE := hE.size
          (try simp only [World.size_alloc] at hzE)
          have HE := Lib.hid hE
          clear hE hF
          go_wp2_with fail
          go_roundw
          case rel => exact ⟨m + 2, by omega, by go_num, b ||| 2 ^ n, rfl, by omega, HNB.out, bgo HB.out HE.out.below⟩
          case measure => simp [intOf]; omega
      · obtain rfl : k = c.length := by omega
        have HB1 := Lib.hid (show ∀ j, b.testBit j = c.contains (j : Int) from fun j => by have := HBI.out j; rwa [List.take_length] at this)
        obtain ⟨W4, rfl⟩ : ∃ W4 : World, W4 = wr := ⟨_, rfl⟩
        have hb := HB.out
        clear HB
        (try clear hcr hsr)
        have HD4 := Lib.hid hb
        have HB4 := Lib.hid (bgo HB3.out hb)
        obtain ⟨hcr, _, hsr⟩ := cells_of_block ((HB4.out.block w.heap.size (by simp)).trans (heap_new0 w _))
        clear hb
        go_wp2_with fail
        refine (Full_nat h _ _ _ _ ((HX.out.alloc _).below HB4.out (Nat.le_refl _)) (by omega)).mono ?_
        rintro e W5 ⟨rfl, hb⟩
        (try clear hcr hsr)
        have HD5 := Lib.hid hb
        have HB5 := Lib.hid (bgo HB4.out hb)
        obtain ⟨hcr, _, hsr⟩ := cells_of_block ((HB5.out.block w.heap.size (by simp)).trans (heap_new0 w _))
        clear hb
        have hfl : 2 ^ h.readings.length - 1 ≤ 31 := by
          have : 2 ^ h.readings.length ≤ 2 ^ 5 := Nat.pow_le_pow_right (by omega) hx5
          omega
        have hand := and_nat tr (2 ^ h.readings.length - 1) (by omega) (by omega)
        have hnn : tr &&& (2 ^ h.readings.length - 1) < 2 ^ 5 := by
          have : tr &&& (2 ^ h.readings.length - 1) ≤ 2 ^ h.readings.length - 1 := Nat.and_le_right
          omega
        obtain ⟨m1, hm1, hm1l, hm1b⟩ := andNot_nat (2 ^ h.readings.length - 1) b (by omega)
        obtain ⟨m2, hm2, hm2l, hm2b⟩ := andNot_nat (2 ^ h.readings.length - 1) (tr &&& (2 ^ h.readings.length - 1)) (by omega)
        have hE1 := HP1.out b m1 HB1.out hm1b
        have hE2 := HP2.out m2 hm2b
        generalize tr &&& (2 ^ h.readings.length - 1) = nn at *
        generalize hfd : 2 ^ h.readings.length - 1 = fl at *
        have HFL := Lib.hid hfd
        have HM := Lib.hid (And.intro hm1b hm2b)
        have HE1 := Lib.hid hE1
        have HE2 := Lib.hid hE2
        clear hm1b hm2b hE1 hE2 hfd HP1 HP2 HB1 HBI
        have hm1I : (m1 : Int) ≤ 31 := by omega
        have hm2I : (m2 : Int) ≤ 31 := by omega
        go_wp2_with fail
        clear hand
        refine wp_region_rg 13 [] none [(2, Spec.val (iv (fl : Int))), (5, ⟨fun _ v => ∃ c, v = hv (someH h (m1)) (.slice ow h.wet.length cw) (.slice ot h.turns.length ct) c, fun _ v Wx => ∃ c, v = hv (someH h (m1)) (.slice ow h.wet.length cw) (.slice ot h.turns.length ct) c ∧ TriplesAt Wx c (someL (m1) h.readings)⟩), (6, ⟨fun _ v => ∃ a b c, v = hv (someH h m1) a b c, fun _ v Wx => ∃ a b c, v = hv (someH h m1) a b c ∧ PairsAt Wx a (someH h m1).wet ∧ IntsAt Wx b (someH h m1).turns ∧ TriplesAt Wx c (someH h m1).readings⟩), (7, ⟨fun _ v => ∃ x, v = .tuple #[x, iv (0)], fun _ _ _ => True⟩)] (by kernel_rfl) (by kernel_rfl) ?_
        simp only [List.take_succ_cons, List.take_zero, List.drop_succ_cons, List.drop_zero]
        repeat (first | (refine tree_det (by rfl) _ (by rfl) (fun W hW => by go_simp; (try simp (disch := omega) only [IntWalk.i64_in]); try rfl) ?_; simp only [Act.put, List.setIfInBounds_toArray, List.set_cons_succ, List.set_cons_zero]) | (refine tree_skip (by rfl) (by rfl) ?_; simp only [Act.put, List.setIfInBounds_toArray, List.set_cons_succ, List.set_cons_zero]))
        refine tree_val _ (by rfl) (by rfl) 47 _ (fun W hW => by go_simp; try rfl) (fun W hE hF => by exact by have := Full_nat h (.slice ow h.wet.length cw) (.slice ot h.turns.length ct) (.slice ox h.readings.length cx) W (((HX.out.alloc _).below HB5.out (Nat.le_refl _)).below (Ext.below (show Ext [] W5 W from hE)) (Nat.le_refl _)) (by omega); rw [HFL.out] at this; exact this) ?_
        simp only [Act.put, List.setIfInBounds_toArray, List.set_cons_succ, List.set_cons_zero]
        repeat (first | (refine tree_det (by rfl) _ (by rfl) (fun W hW => by go_simp; (try simp (disch := omega) only [IntWalk.i64_in]); try rfl) ?_; simp only [Act.put, List.setIfInBounds_toArray, List.set_cons_succ, List.set_cons_zero]) | (refine tree_skip (by rfl) (by rfl) ?_; simp only [Act.put, List.setIfInBounds_toArray, List.set_cons_succ, List.set_cons_zero]))
        try rw [hm1]
        refine tree_some _ (by rfl) (by rfl) (by exact ⟨_, undef, rfl⟩) (fun W hE hF => ?_) (fun v Wa Wb ho hE => ?_) (fun v hv => ?_)
        · have hE' : Ext [] W5 W := hE
          refine does_enter 46 #[hv h (.slice ow h.wet.length cw) (.slice ot h.turns.length ct) (.slice ox h.readings.length cx), iv ((m1 : Int))] (by go_simp; try rfl) ?_
          refine (some_at h _ _ _ ((m1 : Int)) (m1) W (rfl) (((HW.out.alloc _).below HB5.out (Nat.le_refl _)).below hE'.below (Nat.le_refl _)) (((HT.out.alloc _).below HB5.out (Nat.le_refl _)).below hE'.below (Nat.le_refl _)) (((HX.out.alloc _).below HB5.out (Nat.le_refl _)).below hE'.below (Nat.le_refl _)) (by omega) (by omega)).mono ?_
          rintro e W' ⟨c, rfl, h1, hb⟩
          exact ⟨_, rfl, ⟨c, rfl⟩, ⟨c, rfl, h1⟩, Ext.of_below hb⟩
        · obtain ⟨c, hv, h1⟩ := ho
          exact ⟨c, hv, h1.below (Ext.below (show Ext [] Wa Wb from hE)) (Nat.le_refl _)⟩
        obtain ⟨c5, rfl⟩ := hv
        simp only [Act.put, List.setIfInBounds_toArray, List.set_cons_succ, List.set_cons_zero]
        refine tree_some _ (by rfl) (by rfl) (by exact ⟨_, undef, undef, undef, rfl⟩) (fun W hE hF => ?_) (fun v Wa Wb ho hE => ?_) (fun v hv => ?_)
        · have hE' : Ext [] W5 W := hE
          obtain ⟨c', he, h3⟩ := hF _ (List.Mem.head _) (by kernel_rfl)
          obtain ⟨-, -, rfl⟩ := hv_inj he
          refine does_enter 21 #[hv (someH h (m1)) (.slice ow h.wet.length cw) (.slice ot h.turns.length ct) c5] (by go_simp; try rfl) ?_
          refine (Heap_any (someH h (m1)) _ _ _ W (((HW.out.alloc _).below HB5.out (Nat.le_refl _)).below hE'.below (Nat.le_refl _)) (((HT.out.alloc _).below HB5.out (Nat.le_refl _)).below hE'.below (Nat.le_refl _)) h3 (by show h.wet.length ≤ 1000; omega) (by show h.turns.length ≤ 1000; omega) (by have := someTo_len (m1) h.readings.length h.readings; show (someTo (m1) h.readings h.readings.length).length ≤ 1000; omega)).mono ?_
          rintro e W' ⟨a, b, c, rfl, h1, h2, h3, hb⟩
          exact ⟨_, rfl, ⟨a, b, c, rfl⟩, ⟨a, b, c, rfl, h1, h2, h3⟩, Ext.of_below hb⟩
        · obtain ⟨a, b, c, hv, h1, h2, h3⟩ := ho
          have hB := Ext.below (show Ext [] Wa Wb from hE)
          exact ⟨a, b, c, hv, h1.below hB (Nat.le_refl _), h2.below hB (Nat.le_refl _), h3.below hB (Nat.le_refl _)⟩
        obtain ⟨a6, b6, c6, rfl⟩ := hv
        simp only [Act.put, List.setIfInBounds_toArray, List.set_cons_succ, List.set_cons_zero]
        refine tree_some _ (by rfl) (by rfl) (by exact ⟨_, undef, rfl⟩) (fun W hE hF => ?_) (fun _ _ _ _ _ => trivial) (fun v hv => ?_)
        · obtain ⟨a', b', c', he, h1, h2, h3⟩ := hF _ (List.Mem.head _) (by kernel_rfl)
          obtain ⟨rfl, rfl, rfl⟩ := hv_inj he
          refine does_enter 35 #[hv (someH h m1) a6 b6 c6, .slice none 0 0] (by go_simp; try rfl) ?_
          refine (Bounds_any (someH h m1) _ _ _ (.slice none 0 0) [] W h1 h2 h3 (ints_nil _)).mono ?_
          rintro e W' ⟨x, rfl, _, hb⟩
          exact ⟨_, rfl, ⟨x, by rw [HE1.out]⟩, trivial, Ext.of_below hb⟩
        obtain ⟨x7, rfl⟩ := hv
        simp only [Act.put, List.setIfInBounds_toArray, List.set_cons_succ, List.set_cons_zero]
        repeat (first | (refine tree_det (by rfl) _ (by rfl) (fun W hW => by go_simp; (try simp (disch := omega) only [IntWalk.i64_in]); try rfl) ?_; simp only [Act.put, List.setIfInBounds_toArray, List.set_cons_succ, List.set_cons_zero]) | (refine tree_skip (by rfl) (by rfl) ?_; simp only [Act.put, List.setIfInBounds_toArray, List.set_cons_succ, List.set_cons_zero]))
        intro W6 hE hF
        have hb := Ext.below (show Ext [] W5 W6 from hE)
        (try clear hcr hsr)
        have HD6 := Lib.hid hb
        have HB6 := Lib.hid (bgo HB5.out hb)
        obtain ⟨hcr, _, hsr⟩ := cells_of_block ((HB6.out.block w.heap.size (by simp)).trans (heap_new0 w _))
        clear hb
        clear hE hF
        go_wp2_with fail
        rcases HE2.out with hE2 | ⟨hE2, hsh⟩
        · have HE := Lib.hid hE2
          clear hE2
          refine wp_region_rg 13 [] none [(2, Spec.val (iv (fl : Int))), (5, ⟨fun _ v => ∃ c, v = hv (someH h (m2)) (.slice ow h.wet.length cw) (.slice ot h.turns.length ct) c, fun _ v Wx => ∃ c, v = hv (someH h (m2)) (.slice ow h.wet.length cw) (.slice ot h.turns.length ct) c ∧ TriplesAt Wx c (someL (m2) h.readings)⟩), (6, ⟨fun _ v => ∃ a b c, v = hv (someH h m2) a b c, fun _ v Wx => ∃ a b c, v = hv (someH h m2) a b c ∧ PairsAt Wx a (someH h m2).wet ∧ IntsAt Wx b (someH h m2).turns ∧ TriplesAt Wx c (someH h m2).readings⟩), (7, ⟨fun _ v => ∃ x, v = .tuple #[x, iv (11)], fun _ _ _ => True⟩)] (by kernel_rfl) (by kernel_rfl) ?_
          simp only [List.take_succ_cons, List.take_zero, List.drop_succ_cons, List.drop_zero]
          repeat (first | (refine tree_det (by rfl) _ (by rfl) (fun W hW => by go_simp; (try simp (disch := omega) only [IntWalk.i64_in]); try rfl) ?_; simp only [Act.put, List.setIfInBounds_toArray, List.set_cons_succ, List.set_cons_zero]) | (refine tree_skip (by rfl) (by rfl) ?_; simp only [Act.put, List.setIfInBounds_toArray, List.set_cons_succ, List.set_cons_zero]))
          refine tree_val _ (by rfl) (by rfl) 47 _ (fun W hW => by go_simp; try rfl) (fun W hE hF => by exact by have := Full_nat h (.slice ow h.wet.length cw) (.slice ot h.turns.length ct) (.slice ox h.readings.length cx) W (((HX.out.alloc _).below HB6.out (Nat.le_refl _)).below (Ext.below (show Ext [] W6 W from hE)) (Nat.le_refl _)) (by omega); rw [HFL.out] at this; exact this) ?_
          simp only [Act.put, List.setIfInBounds_toArray, List.set_cons_succ, List.set_cons_zero]
          repeat (first | (refine tree_det (by rfl) _ (by rfl) (fun W hW => by go_simp; (try simp (disch := omega) only [IntWalk.i64_in]); try rfl) ?_; simp only [Act.put, List.setIfInBounds_toArray, List.set_cons_succ, List.set_cons_zero]) | (refine tree_skip (by rfl) (by rfl) ?_; simp only [Act.put, List.setIfInBounds_toArray, List.set_cons_succ, List.set_cons_zero]))
          try rw [hm2]
          refine tree_some _ (by rfl) (by rfl) (by exact ⟨_, undef, rfl⟩) (fun W hE hF => ?_) (fun v Wa Wb ho hE => ?_) (fun v hv => ?_)
          · have hE' : Ext [] W6 W := hE
            refine does_enter 46 #[hv h (.slice ow h.wet.length cw) (.slice ot h.turns.length ct) (.slice ox h.readings.length cx), iv ((m2 : Int))] (by go_simp; try rfl) ?_
            refine (some_at h _ _ _ ((m2 : Int)) (m2) W (rfl) (((HW.out.alloc _).below HB6.out (Nat.le_refl _)).below hE'.below (Nat.le_refl _)) (((HT.out.alloc _).below HB6.out (Nat.le_refl _)).below hE'.below (Nat.le_refl _)) (((HX.out.alloc _).below HB6.out (Nat.le_refl _)).below hE'.below (Nat.le_refl _)) (by omega) (by omega)).mono ?_
            rintro e W' ⟨c, rfl, h1, hb⟩
            exact ⟨_, rfl, ⟨c, rfl⟩, ⟨c, rfl, h1⟩, Ext.of_below hb⟩
          · obtain ⟨c, hv, h1⟩ := ho
            exact ⟨c, hv, h1.below (Ext.below (show Ext [] Wa Wb from hE)) (Nat.le_refl _)⟩
          obtain ⟨c8, rfl⟩ := hv
          simp only [Act.put, List.setIfInBounds_toArray, List.set_cons_succ, List.set_cons_zero]
          refine tree_some _ (by rfl) (by rfl) (by exact ⟨_, undef, undef, undef, rfl⟩) (fun W hE hF => ?_) (fun v Wa Wb ho hE => ?_) (fun v hv => ?_)
          · have hE' : Ext [] W6 W := hE
            obtain ⟨c', he, h3⟩ := hF _ (List.Mem.head _) (by kernel_rfl)
            obtain ⟨-, -, rfl⟩ := hv_inj he
            refine does_enter 21 #[hv (someH h (m2)) (.slice ow h.wet.length cw) (.slice ot h.turns.length ct) c8] (by go_simp; try rfl) ?_
            refine (Heap_any (someH h (m2)) _ _ _ W (((HW.out.alloc _).below HB6.out (Nat.le_refl _)).below hE'.below (Nat.le_refl _)) (((HT.out.alloc _).below HB6.out (Nat.le_refl _)).below hE'.below (Nat.le_refl _)) h3 (by show h.wet.length ≤ 1000; omega) (by show h.turns.length ≤ 1000; omega) (by have := someTo_len (m2) h.readings.length h.readings; show (someTo (m2) h.readings h.readings.length).length ≤ 1000; omega)).mono ?_
            rintro e W' ⟨a, b, c, rfl, h1, h2, h3, hb⟩
            exact ⟨_, rfl, ⟨a, b, c, rfl⟩, ⟨a, b, c, rfl, h1, h2, h3⟩, Ext.of_below hb⟩
          · obtain ⟨a, b, c, hv, h1, h2, h3⟩ := ho
            have hB := Ext.below (show Ext [] Wa Wb from hE)
            exact ⟨a, b, c, hv, h1.below hB (Nat.le_refl _), h2.below hB (Nat.le_refl _), h3.below hB (Nat.le_refl _)⟩
          obtain ⟨a9, b9, c9, rfl⟩ := hv
          simp only [Act.put, List.setIfInBounds_toArray, List.set_cons_succ, List.set_cons_zero]
          refine tree_some _ (by rfl) (by rfl) (by exact ⟨_, undef, rfl⟩) (fun W hE hF => ?_) (fun _ _ _ _ _ => trivial) (fun v hv => ?_)
          · obtain ⟨a', b', c', he, h1, h2, h3⟩ := hF _ (List.Mem.head _) (by kernel_rfl)
            obtain ⟨rfl, rfl, rfl⟩ := hv_inj he
            refine does_enter 35 #[hv (someH h m2) a9 b9 c9, .slice none 0 0] (by go_simp; try rfl) ?_
            refine (Bounds_any (someH h m2) _ _ _ (.slice none 0 0) [] W h1 h2 h3 (ints_nil _)).mono ?_
            rintro e W' ⟨x, rfl, _, hb⟩
            exact ⟨_, rfl, ⟨x, by rw [HE.out]⟩, trivial, Ext.of_below hb⟩
          obtain ⟨x10, rfl⟩ := hv
          simp only [Act.put, List.setIfInBounds_toArray, List.set_cons_succ, List.set_cons_zero]
          repeat (first | (refine tree_det (by rfl) _ (by rfl) (fun W hW => by go_simp; (try simp (disch := omega) only [IntWalk.i64_in]); try rfl) ?_; simp only [Act.put, List.setIfInBounds_toArray, List.set_cons_succ, List.set_cons_zero]) | (refine tree_skip (by rfl) (by rfl) ?_; simp only [Act.put, List.setIfInBounds_toArray, List.set_cons_succ, List.set_cons_zero]))
          intro W7 hE hF
          have hb := Ext.below (show Ext [] W6 W7 from hE)
          (try clear hcr hsr)
          have HD7 := Lib.hid hb
          have HB7 := Lib.hid (bgo HB6.out hb)
          obtain ⟨hcr, _, hsr⟩ := cells_of_block ((HB7.out.block w.heap.size (by simp)).trans (heap_new0 w _))
          clear hb
          clear hE hF
          go_wp2_with fail
          refine (awake_any _).mono ?_
          rintro e W8 ⟨rfl, hb⟩
          (try clear hcr hsr)
          have HD8 := Lib.hid hb
          have HB8 := Lib.hid (bgo HB7.out hb)
          obtain ⟨hcr, _, hsr⟩ := cells_of_block ((HB8.out.block w.heap.size (by simp)).trans (heap_new0 w _))
          clear hb
          go_wp2_with fail
          go_returns
          exact ⟨by simp, bgo (bgoAlloc (Below.refl _ _) _) HB8.out⟩
        · have HE := Lib.hid hE2
          have HSH := Lib.hid hsh
          clear hE2 hsh
          refine wp_region_rg 13 [] none [(2, Spec.val (iv (fl : Int))), (5, ⟨fun _ v => ∃ c, v = hv (someH h (m2)) (.slice ow h.wet.length cw) (.slice ot h.turns.length ct) c, fun _ v Wx => ∃ c, v = hv (someH h (m2)) (.slice ow h.wet.length cw) (.slice ot h.turns.length ct) c ∧ TriplesAt Wx c (someL (m2) h.readings)⟩), (6, ⟨fun _ v => ∃ a b c, v = hv (someH h m2) a b c, fun _ v Wx => ∃ a b c, v = hv (someH h m2) a b c ∧ PairsAt Wx a (someH h m2).wet ∧ IntsAt Wx b (someH h m2).turns ∧ TriplesAt Wx c (someH h m2).readings⟩), (7, ⟨fun _ v => ∃ x, v = .tuple #[x, iv (0)], fun _ _ _ => True⟩)] (by kernel_rfl) (by kernel_rfl) ?_
          simp only [List.take_succ_cons, List.take_zero, List.drop_succ_cons, List.drop_zero]
          repeat (first | (refine tree_det (by rfl) _ (by rfl) (fun W hW => by go_simp; (try simp (disch := omega) only [IntWalk.i64_in]); try rfl) ?_; simp only [Act.put, List.setIfInBounds_toArray, List.set_cons_succ, List.set_cons_zero]) | (refine tree_skip (by rfl) (by rfl) ?_; simp only [Act.put, List.setIfInBounds_toArray, List.set_cons_succ, List.set_cons_zero]))
          refine tree_val _ (by rfl) (by rfl) 47 _ (fun W hW => by go_simp; try rfl) (fun W hE hF => by exact by have := Full_nat h (.slice ow h.wet.length cw) (.slice ot h.turns.length ct) (.slice ox h.readings.length cx) W (((HX.out.alloc _).below HB6.out (Nat.le_refl _)).below (Ext.below (show Ext [] W6 W from hE)) (Nat.le_refl _)) (by omega); rw [HFL.out] at this; exact this) ?_
          simp only [Act.put, List.setIfInBounds_toArray, List.set_cons_succ, List.set_cons_zero]
          repeat (first | (refine tree_det (by rfl) _ (by rfl) (fun W hW => by go_simp; (try simp (disch := omega) only [IntWalk.i64_in]); try rfl) ?_; simp only [Act.put, List.setIfInBounds_toArray, List.set_cons_succ, List.set_cons_zero]) | (refine tree_skip (by rfl) (by rfl) ?_; simp only [Act.put, List.setIfInBounds_toArray, List.set_cons_succ, List.set_cons_zero]))
          try rw [hm2]
          refine tree_some _ (by rfl) (by rfl) (by exact ⟨_, undef, rfl⟩) (fun W hE hF => ?_) (fun v Wa Wb ho hE => ?_) (fun v hv => ?_)
          · have hE' : Ext [] W6 W := hE
            refine does_enter 46 #[hv h (.slice ow h.wet.length cw) (.slice ot h.turns.length ct) (.slice ox h.readings.length cx), iv ((m2 : Int))] (by go_simp; try rfl) ?_
            refine (some_at h _ _ _ ((m2 : Int)) (m2) W (rfl) (((HW.out.alloc _).below HB6.out (Nat.le_refl _)).below hE'.below (Nat.le_refl _)) (((HT.out.alloc _).below HB6.out (Nat.le_refl _)).below hE'.below (Nat.le_refl _)) (((HX.out.alloc _).below HB6.out (Nat.le_refl _)).below hE'.below (Nat.le_refl _)) (by omega) (by omega)).mono ?_
            rintro e W' ⟨c, rfl, h1, hb⟩
            exact ⟨_, rfl, ⟨c, rfl⟩, ⟨c, rfl, h1⟩, Ext.of_below hb⟩
          · obtain ⟨c, hv, h1⟩ := ho
            exact ⟨c, hv, h1.below (Ext.below (show Ext [] Wa Wb from hE)) (Nat.le_refl _)⟩
          obtain ⟨c8, rfl⟩ := hv
          simp only [Act.put, List.setIfInBounds_toArray, List.set_cons_succ, List.set_cons_zero]
          refine tree_some _ (by rfl) (by rfl) (by exact ⟨_, undef, undef, undef, rfl⟩) (fun W hE hF => ?_) (fun v Wa Wb ho hE => ?_) (fun v hv => ?_)
          · have hE' : Ext [] W6 W := hE
            obtain ⟨c', he, h3⟩ := hF _ (List.Mem.head _) (by kernel_rfl)
            obtain ⟨-, -, rfl⟩ := hv_inj he
            refine does_enter 21 #[hv (someH h (m2)) (.slice ow h.wet.length cw) (.slice ot h.turns.length ct) c8] (by go_simp; try rfl) ?_
            refine (Heap_any (someH h (m2)) _ _ _ W (((HW.out.alloc _).below HB6.out (Nat.le_refl _)).below hE'.below (Nat.le_refl _)) (((HT.out.alloc _).below HB6.out (Nat.le_refl _)).below hE'.below (Nat.le_refl _)) h3 (by show h.wet.length ≤ 1000; omega) (by show h.turns.length ≤ 1000; omega) (by have := someTo_len (m2) h.readings.length h.readings; show (someTo (m2) h.readings h.readings.length).length ≤ 1000; omega)).mono ?_
            rintro e W' ⟨a, b, c, rfl, h1, h2, h3, hb⟩
            exact ⟨_, rfl, ⟨a, b, c, rfl⟩, ⟨a, b, c, rfl, h1, h2, h3⟩, Ext.of_below hb⟩
          · obtain ⟨a, b, c, hv, h1, h2, h3⟩ := ho
            have hB := Ext.below (show Ext [] Wa Wb from hE)
            exact ⟨a, b, c, hv, h1.below hB (Nat.le_refl _), h2.below hB (Nat.le_refl _), h3.below hB (Nat.le_refl _)⟩
          obtain ⟨a9, b9, c9, rfl⟩ := hv
          simp only [Act.put, List.setIfInBounds_toArray, List.set_cons_succ, List.set_cons_zero]
          refine tree_some _ (by rfl) (by rfl) (by exact ⟨_, undef, rfl⟩) (fun W hE hF => ?_) (fun _ _ _ _ _ => trivial) (fun v hv => ?_)
          · obtain ⟨a', b', c', he, h1, h2, h3⟩ := hF _ (List.Mem.head _) (by kernel_rfl)
            obtain ⟨rfl, rfl, rfl⟩ := hv_inj he
            refine does_enter 35 #[hv (someH h m2) a9 b9 c9, .slice none 0 0] (by go_simp; try rfl) ?_
            refine (Bounds_any (someH h m2) _ _ _ (.slice none 0 0) [] W h1 h2 h3 (ints_nil _)).mono ?_
            rintro e W' ⟨x, rfl, _, hb⟩
            exact ⟨_, rfl, ⟨x, by rw [HE.out]⟩, trivial, Ext.of_below hb⟩
          obtain ⟨x10, rfl⟩ := hv
          simp only [Act.put, List.setIfInBounds_toArray, List.set_cons_succ, List.set_cons_zero]
          repeat (first | (refine tree_det (by rfl) _ (by rfl) (fun W hW => by go_simp; (try simp (disch := omega) only [IntWalk.i64_in]); try rfl) ?_; simp only [Act.put, List.setIfInBounds_toArray, List.set_cons_succ, List.set_cons_zero]) | (refine tree_skip (by rfl) (by rfl) ?_; simp only [Act.put, List.setIfInBounds_toArray, List.set_cons_succ, List.set_cons_zero]))
          intro W7 hE hF
          have hb := Ext.below (show Ext [] W6 W7 from hE)
          (try clear hcr hsr)
          have HD7 := Lib.hid hb
          have HB7 := Lib.hid (bgo HB6.out hb)
          obtain ⟨hcr, _, hsr⟩ := cells_of_block ((HB7.out.block w.heap.size (by simp)).trans (heap_new0 w _))
          clear hb
          clear hE hF
          go_wp2_with fail
          refine (Bits_any nn 5 _ hnn (by omega)).mono ?_
          rintro e W8 ⟨v8, rfl, hv8, hb⟩
          (try clear hcr hsr)
          have HD8 := Lib.hid hb
          have HB8 := Lib.hid (bgo HB7.out hb)
          obtain ⟨hcr, _, hsr⟩ := cells_of_block ((HB8.out.block w.heap.size (by simp)).trans (heap_new0 w _))
          clear hb
          obtain ⟨o8, c8', rfl⟩ := hv8.open
          have HV8 := Lib.hid hv8
          clear hv8
          go_wp2_with fail
          refine (Shorter_any (bitsL nn) c _ _ _ HV8.out (((((HV.out.below HD4.out (Nat.le_refl _)).below HD5.out (Nat.le_refl _)).below HD6.out (Nat.le_refl _)).below HD7.out (Nat.le_refl _)).below HD8.out (Nat.le_refl _))).mono ?_
          rw [HSH.out]
          rintro e W9 ⟨rfl, hb⟩
          (try clear hcr hsr)
          have HD9 := Lib.hid hb
          have HB9 := Lib.hid (bgo HB8.out hb)
          obtain ⟨hcr, _, hsr⟩ := cells_of_block ((HB9.out.block w.heap.size (by simp)).trans (heap_new0 w _))
          clear hb
          go_wp2_with fail
          refine (awake_any _).mono ?_
          rintro e W10 ⟨rfl, hb⟩
          (try clear hcr hsr)
          have HD10 := Lib.hid hb
          have HB10 := Lib.hid (bgo HB9.out hb)
          obtain ⟨hcr, _, hsr⟩ := cells_of_block ((HB10.out.block w.heap.size (by simp)).trans (heap_new0 w _))
          clear hb
          go_wp2_with fail
          go_returns
          exact ⟨by simp, bgo (bgoAlloc (Below.refl _ _) _) HB10.out⟩

end Go.Proofs.Ytoibfafmnaooaaa

namespace Go.Proofs.Ytoibfafmnaooaaa
open Go.RowKit Go.RG Go.SL Go.Shelf Cou
set_option maxHeartbeats 400000
set_option maxRecDepth 10000

/-- What the heats need of a heap and a truth. -/
structure HeatOk (h : HeapD) (t : Int × List Int) : Prop where
  size0 : 0 ≤ h.size
  size1 : h.size ≤ 20
  cool0 : 0 ≤ h.cool
  cool1 : h.cool ≤ 100
  start0 : 0 ≤ t.1
  start1 : t.1 ≤ 500
  wet : ∀ x ∈ t.2, 0 ≤ x ∧ x ≤ 20

theorem heatOk_of {h : HeapD} (hS : Sound h) {t : Int × List Int} (hl : listedT h t = true) : HeatOk h t := by
  obtain ⟨_, _, h1, h2, h3⟩ := listed_of hS hl
  exact ⟨hS.size0, hS.size1, hS.cool0, hS.cool1, h1, h2, h3⟩

theorem HeatOk.bd {h : HeapD} {t : Int × List Int} (hO : HeatOk h t) (turns : List Int) (k : Nat) : 0 ≤ heatAt h.size h.cool turns t.1 t.2 k ∧ heatAt h.size h.cool turns t.1 t.2 k ≤ 500 + 40 * k :=
  heatAt_bd turns t.2 hO.size0 hO.size1 hO.cool0 hO.cool1 hO.start0 hO.start1 hO.wet k

set_option maxHeartbeats 2000000 in
theorem Heat_any (h : HeapD) (wv tv xv' : Value) (t : Int × List Int) (hO : HeatOk h t) (uv rv' : Value) (turns : List Int) :
    ∀ (k : Nat) (w : World), k ≤ t.2.length → k ≤ 12 → IntsAt w uv t.2 → IntsAt w rv' turns → (∃ o n c, wv = .slice o n c) → (∃ o n c, tv = .slice o n c) → (∃ o n c, xv' = .slice o n c) →
      Calls Try.prog 37 #[hv h wv tv xv', .agg #[iv t.1, uv], rv', iv ((k : Int) - 1)] w (PV (iv (heatAt h.size h.cool turns t.1 t.2 k)) w) := by
  intro k
  induction k with
  | zero =>
    intro w _ _ hu hr h1 h2 h3
    obtain ⟨o1, c1, rfl⟩ := hu.open
    obtain ⟨o2, c2, rfl⟩ := hr.open
    obtain ⟨oa, na, ca, rfl⟩ := h1
    obtain ⟨ob, nb, cb, rfl⟩ := h2
    obtain ⟨oc, nc, cc, rfl⟩ := h3
    clear hu hr
    go_enter Try.func37, Try.ntmps37
    go_wp2
    go_returns
    exact ⟨by simp [heatAt], (by repeat (first | exact Below.refl _ _ | assumption | refine bgo ?_ (by assumption) | refine bgoAlloc ?_ _ | refine bgoDrew ?_ | refine bgoSet ?_ (by simp; omega) _))⟩
  | succ k ih =>
    intro w hk hk12 hu hr h1 h2 h3
    have hk' : k < t.2.length := by omega
    have hbd := hO.bd turns k
    have hx := hO.wet _ (List.getElem_mem hk')
    have hval : heatAt h.size h.cool turns t.1 t.2 (k + 1) = cooled h.cool (heatAt h.size h.cool turns t.1 t.2 k) (turns.contains (k : Int)) + h.size * t.2[k] / 10 := by
      simp [heatAt, stepH, List.getD, hk']
    have hs0 := hO.size0
    have hs1 := hO.size1
    have hc0 := hO.cool0
    have hc1 := hO.cool1
    have hcb := cooled_bd hc0 hc1 hbd.1 (turns.contains (k : Int))
    obtain ⟨o1, c1, rfl⟩ := hu.open
    obtain ⟨o2, c2, rfl⟩ := hr.open
    obtain ⟨oa, na, ca, rfl⟩ := h1
    obtain ⟨ob, nb, cb, rfl⟩ := h2
    obtain ⟨oc, nc, cc, rfl⟩ := h3
    obtain ⟨b, off, rfl, hb1, d1⟩ := IntsAt.cell hu hk'
    have HU := Lib.hid hu
    have HR := Lib.hid hr
    have HIH := Lib.hid ih
    have hkI : ((k + 1 : Nat) : Int) - 1 = (k : Int) := by omega
    rw [hkI]
    have hlen := hu.len
    clear hu hr ih hkI
    obtain ⟨m, hm⟩ : ∃ m, heatAt h.size h.cool turns t.1 t.2 k = m := ⟨_, rfl⟩
    obtain ⟨q, hq⟩ : ∃ q, heatAt h.size h.cool turns t.1 t.2 (k + 1) = q := ⟨_, rfl⟩
    rw [hm] at hbd hval hcb
    rw [hq] at hval
    rw [hq]
    generalize t.2[k] = x at *
    obtain ⟨hm0, hm1⟩ := hbd
    obtain ⟨hx0, hx1⟩ := hx
    have hsx0 : 0 ≤ h.size * x := Int.mul_nonneg hs0 hx0
    have hsx1 : h.size * x ≤ 20 * 20 := Int.mul_le_mul hs1 hx1 hx0 (by omega)
    have hsx2 : h.size * x ≤ 400 := by omega
    have hmc0 : 0 ≤ m * h.cool := Int.mul_nonneg hm0 hc0
    have hmc1 : m * h.cool ≤ m * 100 := Int.mul_le_mul_of_nonneg_left hc1 hm0
    have hmc2 : m * h.cool ≤ 200000 := by omega
    have hm2 : m ≤ 1000 := by omega
    obtain ⟨bt, hbt⟩ : ∃ bt, turns.contains (k : Int) = bt := ⟨_, rfl⟩
    rw [hbt] at hval hcb
    have HM := Lib.hid (And.intro hm (And.intro hbt hval))
    have hkk : k ≤ 12 := by omega
    have hkl : (k : Int) < t.2.length := by omega
    clear hm hq hbt hval hsx1 hm1 hcb hk12
    have HO := Lib.hid hO
    clear hO
    go_enter Try.func37, Try.ntmps37
    go_wp2_with fail
    refine (HIH.out _ (by omega) hkk ((HU.out.alloc _).alloc _) ((HR.out.alloc _).alloc _) ⟨_, _, _, rfl⟩ ⟨_, _, _, rfl⟩ ⟨_, _, _, rfl⟩).mono ?_
    rw [HM.out.1]
    rintro e W1 ⟨rfl, hb⟩
    obtain ⟨hc, hf⟩ := bcell hb
    have hz0 : w.heap.size + 1 < W1.heap.size := by have := hb.size; simp only [World.size_alloc] at this; omega
    have hz1 : b < W1.heap.size := by omega
    have HB1 := Lib.hid hb
    clear hb HIH
    go_wp2_with fail
    refine (Has_any turns _ (k : Int) _ (((HR.out.alloc _).alloc _).below HB1.out (Nat.le_refl _))).mono ?_
    rw [HM.out.2.1]
    rintro e W2 ⟨rfl, hb⟩
    have hz2 : w.heap.size + 1 < W2.heap.size := by have := hb.size; omega
    have d1' : W2.cell? ⟨b, off + k, none⟩ = some (.int .i64 x) := by
      rw [(bcell hb).1 b _ hz1, hc b _ (by simp; omega)]
      exact ((((Below.refl w.heap.size w).alloc (Nat.le_refl _) _).alloc (by simp) _).cell (p := ⟨b, off + k, none⟩) hb1).trans d1
    have HB2 := Lib.hid hb
    obtain ⟨hx1c, _, hx1s⟩ := cells_of_block ((hb.block w.heap.size (by omega)).trans ((HB1.out.block _ (by simp; omega)).trans ((Below.heap_alloc _ _ _ (by simp)).trans (heap_new0 _ _))))
    obtain ⟨hx2c, _, hx2s⟩ := cells_of_block ((hb.block (w.heap.size + 1) (by omega)).trans ((HB1.out.block _ (by simp)).trans (heap_new1 _ _ _)))
    clear hb hc hf d1
    have hz3 : b < W2.heap.size := by omega
    cases bt
    · have hmq : q = m + h.size * x / 10 := by rw [HM.out.2.2]; rfl
      have HMQ := Lib.hid hmq
      clear hmq
      go_wp2_with fail
      refine wp_region_rg 12 [] none [] (by kernel_rfl) (by kernel_rfl) ?_
      simp only [List.take_succ_cons, List.take_zero, List.drop_succ_cons, List.drop_zero]
      repeat (first | (refine tree_det (by rfl) _ (by rfl) (fun W hW => by go_simp; (try simp (disch := omega) only [IntWalk.i64_in, Int.tdiv_eq_ediv_of_nonneg]); try rfl) ?_; simp only [Act.put, List.setIfInBounds_toArray, List.set_cons_succ, List.set_cons_zero]) | (refine tree_skip (by rfl) (by rfl) ?_; simp only [Act.put, List.setIfInBounds_toArray, List.set_cons_succ, List.set_cons_zero]))
      intro W3 hE hF
      have HE := Lib.hid (show Ext [] W2 W3 from hE)
      clear hE hF
      go_wp2_with fail
      go_returns
      exact ⟨by rw [HMQ.out]; simp, bgo (bgo (bgo (bgoAlloc (bgoAlloc (Below.refl _ _) _) _) HB1.out) HB2.out) HE.out.below⟩
    · have hmq : q = m - m * h.cool / 100 + h.size * x / 10 := by rw [HM.out.2.2]; rfl
      have HMQ := Lib.hid hmq
      clear hmq
      go_wp2_with fail
      have hdv : m * h.cool / 100 ≤ m := by omega
      have hdv0 : 0 ≤ m * h.cool / 100 := by omega
      clear hmc0 hmc1 hmc2
      generalize m * h.cool / 100 = y at *
      refine wp_region_rg 12 [] none [] (by kernel_rfl) (by kernel_rfl) ?_
      simp only [List.take_succ_cons, List.take_zero, List.drop_succ_cons, List.drop_zero]
      repeat (first | (refine tree_det (by rfl) _ (by rfl) (fun W hW => by go_simp; (try simp (disch := omega) only [IntWalk.i64_in, Int.tdiv_eq_ediv_of_nonneg]); try rfl) ?_; simp only [Act.put, List.setIfInBounds_toArray, List.set_cons_succ, List.set_cons_zero]) | (refine tree_skip (by rfl) (by rfl) ?_; simp only [Act.put, List.setIfInBounds_toArray, List.set_cons_succ, List.set_cons_zero]))
      intro W3 hE hF
      have HE := Lib.hid (show Ext [] W2 W3 from hE)
      clear hE hF
      go_wp2_with fail
      go_returns
      exact ⟨by rw [HMQ.out]; simp, bgo (bgo (bgo (bgoAlloc (bgoAlloc (Below.refl _ _) _) _) HB1.out) HB2.out) HE.out.below⟩

theorem Heat_at (h : HeapD) (t : Int × List Int) (hO : HeatOk h t) (oa ob oc : Option Addr) (na ca nb cb nc cc : Nat) (uv rv' : Value) (turns : List Int) (n : Nat) (w : World) (hn : n < t.2.length) (hn12 : n < 12) (hu : IntsAt w uv t.2) (hr : IntsAt w rv' turns) :
    Calls Try.prog 37 #[hv h (.slice oa na ca) (.slice ob nb cb) (.slice oc nc cc), .agg #[iv t.1, uv], rv', iv (n : Int)] w (PV (iv (heatAt h.size h.cool turns t.1 t.2 (n + 1))) w) := by
  have := Heat_any h (.slice oa na ca) (.slice ob nb cb) (.slice oc nc cc) t hO uv rv' turns (n + 1) w hn hn12 hu hr ⟨_, _, _, rfl⟩ ⟨_, _, _, rfl⟩ ⟨_, _, _, rfl⟩
  rwa [show (((n + 1 : Nat) : Int) - 1) = (n : Int) from by omega] at this

/-- A reading is right, by the reference. -/
def rightB (h : HeapD) (t : Int × List Int) (x : Rdg) : Bool := inB (heatAt h.size h.cool h.turns t.1 t.2 (x.1.toNat + 1)) (x.2.1 - x.2.2) (x.2.1 + x.2.2)

set_option maxHeartbeats 1000000 in
theorem Right_any (h : HeapD) (oa oc : Option Addr) (na ca nc cc : Nat) (tv : Value) (t : Int × List Int) (hO : HeatOk h t) (uv : Value) (x : Rdg) (w : World) (hu : IntsAt w uv t.2) (ht : IntsAt w tv h.turns)
    (h0 : 0 ≤ x.1) (h1 : x.1 < t.2.length) (h2 : x.1 < 12) (hs0 : 0 ≤ x.2.1) (hs1 : x.2.1 ≤ 1000) (he0 : 0 ≤ x.2.2) (he1 : x.2.2 ≤ 50) :
    Calls Try.prog 74 #[hv h (.slice oa na ca) tv (.slice oc nc cc), .agg #[iv t.1, uv], xv x] w (PV (.bool (rightB h t x)) w) := by
  obtain ⟨o1, c1, rfl⟩ := hu.open
  obtain ⟨ob, cb, rfl⟩ := ht.open
  obtain ⟨xh, xs, xe⟩ := x
  simp only at h0 h1 h2 hs0 hs1 he0 he1
  obtain ⟨n, rfl⟩ := Int.eq_ofNat_of_zero_le h0
  have HQ := Lib.hid (show rightB h t ((n : Int), xs, xe) = inB (heatAt h.size h.cool h.turns t.1 t.2 (n + 1)) (xs - xe) (xs + xe) from by simp [rightB])
  have HU := Lib.hid hu
  have HT := Lib.hid ht
  have HO := Lib.hid hO
  have HN := Lib.hid (show n < t.2.length ∧ n < 12 from ⟨by omega, by omega⟩)
  clear hu ht hO
  obtain ⟨m, hm⟩ : ∃ m, heatAt h.size h.cool h.turns t.1 t.2 (n + 1) = m := ⟨_, rfl⟩
  rw [hm] at HQ
  have HM := Lib.hid hm
  clear hm
  go_enter Try.func74, Try.ntmps74
  go_wp2_with fail
  refine gworld fun W1 hW1 => ?_
  have HB1 := Lib.hid (show Below w.heap.size w W1 from by rw [hW1]; exact (by repeat (first | exact Below.refl _ _ | assumption | refine bgo ?_ (by assumption) | refine bgoAlloc ?_ _ | refine bgoDrew ?_ | refine bgoSet ?_ (by simp; omega) _)))
  obtain ⟨hx1c, _, hx1s⟩ := cells_of_block (show W1.heap[w.heap.size]? = some (.cells #[iv h.last, iv h.size, iv h.cool, iv h.die, iv h.burn, iv h.start.1, iv h.start.2, .slice oa na ca, .slice ob h.turns.length cb, .slice oc nc cc] 28 (0, 0)) from by rw [hW1]; exact (Below.heap_alloc _ _ _ (by first | omega | (simp; done) | (simp; omega))).trans ((Below.heap_alloc _ _ _ (by first | omega | (simp; done) | (simp; omega))).trans (heap_new0 _ _)))
  obtain ⟨hx2c, _, hx2s⟩ := cells_of_block (show W1.heap[w.heap.size + 1]? = some (.cells #[iv t.1, .slice o1 t.2.length c1] 66 (0, 0)) from by rw [hW1]; exact (Below.heap_alloc _ _ _ (by first | omega | (simp; done) | (simp; omega))).trans (heap_new1 _ _ _))
  obtain ⟨hx3c, _, hx3s⟩ := cells_of_block (show W1.heap[w.heap.size + 2]? = some (.cells #[iv (n : Int), iv xs, iv xe] 79 (0, 0)) from by rw [hW1]; exact heap_new2 _ _ _ _)
  clear hW1
  refine wp_region_rg 18 [] none [(6, Spec.val (iv m)), (17, Spec.val (.bool (inB m (xs - xe) (xs + xe))))] (by kernel_rfl) (by kernel_rfl) ?_
  simp only [List.take_succ_cons, List.take_zero, List.drop_succ_cons, List.drop_zero]
  repeat (first | (refine tree_det (by rfl) _ (by rfl) (fun W hW => by go_simp; (try simp (disch := omega) only [IntWalk.i64_in]); try rfl) ?_; simp only [Act.put, List.setIfInBounds_toArray, List.set_cons_succ, List.set_cons_zero]) | (refine tree_skip (by rfl) (by rfl) ?_; simp only [Act.put, List.setIfInBounds_toArray, List.set_cons_succ, List.set_cons_zero]))
  refine tree_val _ (by rfl) (by rfl) 37 _ (fun W hW => by go_simp; try rfl) (fun W hE hF => by exact by have := Heat_at h t HO.out oa ob oc na ca h.turns.length cb nc cc (.slice o1 t.2.length c1) (.slice ob h.turns.length cb) h.turns n W HN.out.1 HN.out.2 ((HU.out.below HB1.out (Nat.le_refl _)).below (Ext.below (show Ext [] W1 W from hE)) (Nat.le_refl _)) ((HT.out.below HB1.out (Nat.le_refl _)).below (Ext.below (show Ext [] W1 W from hE)) (Nat.le_refl _)); rw [HM.out] at this; exact this) ?_
  simp only [Act.put, List.setIfInBounds_toArray, List.set_cons_succ, List.set_cons_zero]
  repeat (first | (refine tree_det (by rfl) _ (by rfl) (fun W hW => by go_simp; (try simp (disch := omega) only [IntWalk.i64_in]); try rfl) ?_; simp only [Act.put, List.setIfInBounds_toArray, List.set_cons_succ, List.set_cons_zero]) | (refine tree_skip (by rfl) (by rfl) ?_; simp only [Act.put, List.setIfInBounds_toArray, List.set_cons_succ, List.set_cons_zero]))
  refine tree_val _ (by rfl) (by rfl) 43 _ (fun W hW => by go_simp; try rfl) (fun W hE hF => by exact In_any m (xs - xe) (xs + xe) W) ?_
  simp only [Act.put, List.setIfInBounds_toArray, List.set_cons_succ, List.set_cons_zero]
  repeat (first | (refine tree_det (by rfl) _ (by rfl) (fun W hW => by go_simp; (try simp (disch := omega) only [IntWalk.i64_in]); try rfl) ?_; simp only [Act.put, List.setIfInBounds_toArray, List.set_cons_succ, List.set_cons_zero]) | (refine tree_skip (by rfl) (by rfl) ?_; simp only [Act.put, List.setIfInBounds_toArray, List.set_cons_succ, List.set_cons_zero]))
  intro W3 hE hF
  have HE := Lib.hid (show Ext [] W1 W3 from hE)
  clear hE hF
  go_wp2_with fail
  go_returns
  exact ⟨by rw [HQ.out]; simp, bgo HB1.out HE.out.below⟩

end Go.Proofs.Ytoibfafmnaooaaa

namespace Go.Proofs.Ytoibfafmnaooaaa
open Go.RowKit Go.RG Go.SL Go.Shelf Cou
set_option maxHeartbeats 400000
set_option maxRecDepth 10000

theorem lawFault_any (h : HeapD) (wv tv xv' : Value) (w : World) (hw : PairsAt w wv h.wet) (ht : IntsAt w tv h.turns) (hx : TriplesAt w xv' h.readings) :
    Calls Try.prog 24 #[hv h wv tv xv'] w (PV (iv (fault h)) w) := by
  obtain ⟨ow, cw, rfl⟩ := hw.open
  obtain ⟨ot, ct, rfl⟩ := ht.open
  obtain ⟨ox, cx, rfl⟩ := hx.open
  have HW := Lib.hid hw
  have HT := Lib.hid ht
  have HX := Lib.hid hx
  clear hw ht hx
  obtain ⟨f, hf⟩ : ∃ f, fault h = f := ⟨_, rfl⟩
  rw [hf]
  have HF := Lib.hid hf
  clear hf
  go_enter Try.func24, Try.ntmps24
  go_wp2_with fail
  refine (Fault_any h _ _ _ _ (HW.out.alloc _) (HT.out.alloc _) (HX.out.alloc _)).mono ?_
  rw [HF.out]
  rintro e W1 ⟨rfl, hb⟩
  have HB := Lib.hid hb
  clear hb
  go_wp2_with fail
  go_returns
  exact ⟨by simp, bgo (bgoAlloc (Below.refl _ _) _) HB.out⟩

def listedB (h : HeapD) (t : Int × List Int) : Bool := decide (t.2.length = h.wet.length) && (inB t.1 h.start.1 h.start.2 && (List.range h.wet.length).all (listedAt h t))
theorem listedB_eq {h : HeapD} (hw : (h.wet.length : Int) = h.last + 1) (t : Int × List Int) : listedB h t = listedT h t := by
  unfold listedB listedT
  congr 1
  rw [Bool.eq_iff_iff]
  simp [bne]
  omega

theorem TruthAt.box {W : World} {b : Nat} {t : Int × List Int} {uv : Value} {ty : TypeId} (h : W.heap[b]? = some (.cells #[iv t.1, uv] ty (0, 0))) : W.cell? ⟨b, 0, none⟩ = some (iv t.1) := (cells_of_block h).1 0

set_option maxHeartbeats 2000000 in
theorem IsListed_any (h : HeapD) (wv tv xv' uv : Value) (t : Int × List Int) (w : World) (hw : PairsAt w wv h.wet) (ht : IntsAt w tv h.turns) (hx : TriplesAt w xv' h.readings) (hu : IntsAt w uv t.2) :
    Calls Try.prog 58 #[hv h wv tv xv', .agg #[iv t.1, uv]] w (PV (.bool (listedB h t)) w) := by
  have hlen1 := hw.len
  have hlen2 := hu.len
  obtain ⟨ow, cw, rfl⟩ := hw.open
  obtain ⟨ot, ct, rfl⟩ := ht.open
  obtain ⟨ox, cx, rfl⟩ := hx.open
  have HW := Lib.hid hw
  have HT := Lib.hid ht
  have HX := Lib.hid hx
  clear hw ht hx
  obtain ⟨ou, cu, rfl⟩ := hu.open
  have HU := Lib.hid hu
  clear hu
  obtain ⟨q, hq⟩ : ∃ q, listedB h t = q := ⟨_, rfl⟩
  rw [hq]
  have HQ := Lib.hid hq
  clear hq
  by_cases hl : t.2.length = h.wet.length
  case neg =>
    have hb : ((t.2.length : Int) != (h.wet.length : Int)) = true := by simp; omega
    obtain rfl : q = false := by rw [← HQ.out]; simp [listedB, hl]
    clear hl
    go_enter Try.func58, Try.ntmps58
    go_wp2_with fail
    go_returns
    exact ⟨by simp, (by repeat (first | exact Below.refl _ _ | assumption | refine bgo ?_ (by assumption) | refine bgoAlloc ?_ _ | refine bgoDrew ?_ | refine bgoSet ?_ (by simp; omega) _))⟩
  have hb : ((t.2.length : Int) != (h.wet.length : Int)) = false := by simp [hl]
  have HL := Lib.hid hl
  clear hl
  cases hin : inB t.1 h.start.1 h.start.2
  · obtain rfl : q = false := by rw [← HQ.out]; simp [listedB, hin]
    go_enter Try.func58, Try.ntmps58
    go_wp2_with fail
    refine (In_any _ _ _ _).mono ?_
    rw [hin]
    rintro e W1 ⟨rfl, hb1⟩
    have HB := Lib.hid hb1
    clear hb1
    go_wp2_with fail
    go_returns
    exact ⟨by simp, bgo (bgoAlloc (bgoAlloc (Below.refl _ _) _) _) HB.out⟩
  · have HIN := Lib.hid hin
    go_enter Try.func58, Try.ntmps58
    go_wp2_with fail
    refine (In_any _ _ _ _).mono ?_
    rw [hin]
    rintro e W1 ⟨rfl, hb1⟩
    have HB1 := Lib.hid (show Below w.heap.size w W1 from bgo (bgoAlloc (bgoAlloc (Below.refl _ _) _) _) hb1)
    have HX1 := Lib.hid (show W1.heap[w.heap.size]? = some (.cells #[.int .i64 h.last, .int .i64 h.size, .int .i64 h.cool, .int .i64 h.die, .int .i64 h.burn, .int .i64 h.start.1, .int .i64 h.start.2, .slice ow h.wet.length cw, .slice ot h.turns.length ct, .slice ox h.readings.length cx] 28 (0, 0)) from (hb1.block _ (by simp; omega)).trans ((Below.heap_alloc _ _ _ (by simp)).trans (heap_new0 _ _)))
    have HX2 := Lib.hid (show W1.heap[w.heap.size + 1]? = some (.cells #[iv t.1, .slice ou t.2.length cu] 66 (0, 0)) from (hb1.block _ (by simp)).trans (heap_new1 _ _ _))
    have hc1 := (bcell hb1).1
    have hz1 : w.heap.size + 1 < W1.heap.size := by have := hb1.size; simp only [World.size_alloc] at this; omega
    clear hb1 hin
    go_wp2_with fail
    clear hc1
    go_loopw [5] (fun u wr => ∃ k : Nat, k ≤ t.2.length ∧ u = .int .i64 k ∧ Below W1.heap.size W1 wr ∧ ∀ j, j < k → listedAt h t j = true) (fun u _ => t.2.length - (intOf u).toNat)
    case atStart => exact ⟨0, Nat.zero_le _, rfl, Below.refl _ _, fun j hj => by omega⟩
    case round =>
      obtain ⟨k, hk, rfl, hB, hno⟩ := hrel
      obtain ⟨hx1c, _, hx1s⟩ := cells_of_block ((hB.block _ (cells_of_block HX1.out).2.2).trans HX1.out)
      obtain ⟨hx2c, _, hx2s⟩ := cells_of_block ((hB.block _ (cells_of_block HX2.out).2.2).trans HX2.out)
      have hHW := (HW.out.below HB1.out (Nat.le_refl _)).below hB (Nat.le_refl _)
      have hHU := (HU.out.below HB1.out (Nat.le_refl _)).below hB (Nat.le_refl _)
      have HN := Lib.hid (And.intro hno hB)
      clear hno hB
      by_cases hlt : k < t.2.length
      · have hlm : k < h.wet.length := by have := HL.out; omega
        obtain ⟨b1, off, rfl, hb1, d1⟩ := IntsAt.cell hHU hlt
        obtain ⟨b2, off', rfl, hb2, d2, d3⟩ := PairsAt.cell hHW hlm
        have hltI : (k : Int) < t.2.length := by omega
        have hlmI : (k : Int) < h.wet.length := by omega
        have g : listedAt h t k = inB t.2[k] h.wet[k].1 h.wet[k].2 := by simp [listedAt, List.getD, hlt, hlm]
        clear hHW hHU
        generalize t.2[k] = x at *
        generalize h.wet[k] = y at *
        have HG := Lib.hid g
        clear g
        cases hxy : inB x y.1 y.2
        · obtain rfl : q = false := by
            rw [← HQ.out]
            simp only [listedB, Bool.and_eq_false_iff]
            right; right
            rw [List.all_eq_false]
            exact ⟨k, by simpa using hlm, by rw [HG.out, hxy]; simp⟩
          go_wp2_with fail
          refine wp_region_rg 19 [] none [(17, Spec.val (.bool false))] (by kernel_rfl) (by kernel_rfl) ?_
          simp only [List.take_succ_cons, List.take_zero, List.drop_succ_cons, List.drop_zero]
          repeat (first | (refine tree_det (by rfl) _ (by rfl) (fun W hW => by go_simp; (try simp (disch := omega) only [IntWalk.i64_in]); try rfl) ?_; simp only [Act.put, List.setIfInBounds_toArray, List.set_cons_succ, List.set_cons_zero]) | (refine tree_skip (by rfl) (by rfl) ?_; simp only [Act.put, List.setIfInBounds_toArray, List.set_cons_succ, List.set_cons_zero]))
          refine tree_val _ (by rfl) (by rfl) 43 _ (fun W hW => by go_simp; try rfl) (fun W hE hF => by exact by have := In_any x y.1 y.2 W; rw [hxy] at this; exact this) ?_
          simp only [Act.put, List.setIfInBounds_toArray, List.set_cons_succ, List.set_cons_zero]
          repeat (first | (refine tree_det (by rfl) _ (by rfl) (fun W hW => by go_simp; (try simp (disch := omega) only [IntWalk.i64_in]); try rfl) ?_; simp only [Act.put, List.setIfInBounds_toArray, List.set_cons_succ, List.set_cons_zero]) | (refine tree_skip (by rfl) (by rfl) ?_; simp only [Act.put, List.setIfInBounds_toArray, List.set_cons_succ, List.set_cons_zero]))
          intro W hE hF
          obtain ⟨hc, hf⟩ := bcell hE.below
          have hzE := hE.size
          (try simp only [World.size_alloc] at hzE)
          have HE := Lib.hid hE
          clear hE hF
          go_wp2_with fail
          go_returns
          exact ⟨by simp, bgo HB1.out (bgo HN.out.2 HE.out.below)⟩
        · go_wp2_with fail
          refine wp_region_rg 19 [] none [(17, Spec.val (.bool true))] (by kernel_rfl) (by kernel_rfl) ?_
          simp only [List.take_succ_cons, List.take_zero, List.drop_succ_cons, List.drop_zero]
          repeat (first | (refine tree_det (by rfl) _ (by rfl) (fun W hW => by go_simp; (try simp (disch := omega) only [IntWalk.i64_in]); try rfl) ?_; simp only [Act.put, List.setIfInBounds_toArray, List.set_cons_succ, List.set_cons_zero]) | (refine tree_skip (by rfl) (by rfl) ?_; simp only [Act.put, List.setIfInBounds_toArray, List.set_cons_succ, List.set_cons_zero]))
          refine tree_val _ (by rfl) (by rfl) 43 _ (fun W hW => by go_simp; try rfl) (fun W hE hF => by exact by have := In_any x y.1 y.2 W; rw [hxy] at this; exact this) ?_
          simp only [Act.put, List.setIfInBounds_toArray, List.set_cons_succ, List.set_cons_zero]
          repeat (first | (refine tree_det (by rfl) _ (by rfl) (fun W hW => by go_simp; (try simp (disch := omega) only [IntWalk.i64_in]); try rfl) ?_; simp only [Act.put, List.setIfInBounds_toArray, List.set_cons_succ, List.set_cons_zero]) | (refine tree_skip (by rfl) (by rfl) ?_; simp only [Act.put, List.setIfInBounds_toArray, List.set_cons_succ, List.set_cons_zero]))
          intro W hE hF
          obtain ⟨hc, hf⟩ := bcell hE.below
          have hzE := hE.size
          (try simp only [World.size_alloc] at hzE)
          have HE := Lib.hid hE
          clear hE hF
          go_wp2_with fail
          go_roundw
          case rel =>
            refine ⟨k + 1, by omega, by go_num, bgo HN.out.2 HE.out.below, fun j hj => ?_⟩
            by_cases e : j = k
            · subst e; rw [HG.out]; exact hxy
            · exact HN.out.1 j (by omega)
          case measure => simp [intOf]; omega
      · have hkl : k = t.2.length := by omega
        obtain rfl : q = true := by
          rw [← HQ.out]
          simp only [listedB, Bool.and_eq_true, decide_eq_true_eq, List.all_eq_true, List.mem_range]
          exact ⟨HL.out, HIN.out, fun j hj => HN.out.1 j (by have := HL.out; omega)⟩
        clear hHW hHU
        go_wp2_with fail
        go_returns
        exact ⟨by simp, bgo HB1.out HN.out.2⟩

theorem getD_map_range {f : Nat → Int} {n i : Nat} (h : i < n) : ((List.range n).map f).getD i 0 = f i := by simp [List.getD, h]

theorem right_eq {h : HeapD} (hS : Sound h) {t : Int × List Int} (hl : listedT h t = true) {x : Rdg} (hx : x ∈ h.readings) : rightB h t x = rightR x (heats h t h.turns) := by
  obtain ⟨h1, h2, _⟩ := listed_of hS hl
  have hr := hS.rdg x hx
  have hw := hS.wetLen
  have : (heats h t h.turns).getD x.1.toNat 0 = heatAt h.size h.cool h.turns t.1 t.2 (x.1.toNat + 1) := by
    unfold heats heatsTo
    rw [getD_map_range (by have := hS.last9; omega), if_pos (by omega)]
  unfold rightB rightR
  rw [this, Bool.eq_iff_iff]
  simp only [inB, Bool.and_eq_true, decide_eq_true_eq]
  omega

end Go.Proofs.Ytoibfafmnaooaaa

namespace Go.Proofs.Ytoibfafmnaooaaa
open Go.RowKit Go.RG Go.SL Go.Shelf Cou
set_option maxHeartbeats 400000
set_option maxRecDepth 10000

set_option maxHeartbeats 2000000 in
theorem IsTruth_any (h : HeapD) (hS : Sound h) (wv tv xv' uv : Value) (t : Int × List Int) (w : World) (hw : PairsAt w wv h.wet) (ht : IntsAt w tv h.turns) (hx : TriplesAt w xv' h.readings) (hu : IntsAt w uv t.2) :
    Calls Try.prog 57 #[hv h wv tv xv', .agg #[iv t.1, uv]] w (PV (.bool (isTruth h t)) w) := by
  have hlen1 := hw.len
  have hlen2 := hu.len
  have hlen3 := hx.len
  obtain ⟨ow, cw, rfl⟩ := hw.open
  obtain ⟨ot, ct, rfl⟩ := ht.open
  obtain ⟨ox, cx, rfl⟩ := hx.open
  have HW := Lib.hid hw
  have HT := Lib.hid ht
  have HX := Lib.hid hx
  clear hw ht hx
  obtain ⟨ou, cu, rfl⟩ := hu.open
  have HU := Lib.hid hu
  clear hu
  obtain ⟨q, hq⟩ : ∃ q, isTruth h t = q := ⟨_, rfl⟩
  rw [hq]
  have HQ := Lib.hid hq
  clear hq
  have hlb := listedB_eq hS.wetLen t
  cases hl : listedT h t
  · obtain rfl : q = false := by rw [← HQ.out]; simp [isTruth, hl]
    rw [hl] at hlb
    have HLB := Lib.hid hlb
    clear hlb hl hS
    go_enter Try.func57, Try.ntmps57
    go_wp2_with fail
    refine (IsListed_any h _ _ _ _ t _ ((HW.out.alloc _).alloc _) ((HT.out.alloc _).alloc _) ((HX.out.alloc _).alloc _) ((HU.out.alloc _).alloc _)).mono ?_
    rw [HLB.out]
    rintro e W1 ⟨rfl, hb1⟩
    have HB := Lib.hid hb1
    clear hb1
    go_wp2_with fail
    go_returns
    exact ⟨by simp, bgo (bgoAlloc (bgoAlloc (Below.refl _ _) _) _) HB.out⟩
  · rw [hl] at hlb
    have HLB := Lib.hid hlb
    have HL := Lib.hid hl
    have HS := Lib.hid hS
    have HO := Lib.hid (heatOk_of hS hl)
    have h9 := hS.last9
    clear hlb hl hS
    go_enter Try.func57, Try.ntmps57
    go_wp2_with fail
    refine (IsListed_any h _ _ _ _ t _ ((HW.out.alloc _).alloc _) ((HT.out.alloc _).alloc _) ((HX.out.alloc _).alloc _) ((HU.out.alloc _).alloc _)).mono ?_
    rw [HLB.out]
    rintro e W1 ⟨rfl, hb1⟩
    have HB1 := Lib.hid (show Below w.heap.size w W1 from bgo (bgoAlloc (bgoAlloc (Below.refl _ _) _) _) hb1)
    have HX1 := Lib.hid (show W1.heap[w.heap.size]? = some (.cells #[.int .i64 h.last, .int .i64 h.size, .int .i64 h.cool, .int .i64 h.die, .int .i64 h.burn, .int .i64 h.start.1, .int .i64 h.start.2, .slice ow h.wet.length cw, .slice ot h.turns.length ct, .slice ox h.readings.length cx] 28 (0, 0)) from (hb1.block _ (by simp; omega)).trans ((Below.heap_alloc _ _ _ (by simp)).trans (heap_new0 _ _)))
    have HX2 := Lib.hid (show W1.heap[w.heap.size + 1]? = some (.cells #[iv t.1, .slice ou t.2.length cu] 66 (0, 0)) from (hb1.block _ (by simp)).trans (heap_new1 _ _ _))
    clear hb1
    go_wp2_with fail
    go_loopw [5] (fun u wr => ∃ k : Nat, k ≤ h.readings.length ∧ u = .int .i64 k ∧ Below W1.heap.size W1 wr ∧ ∀ j, j < k → rightR (h.readings.getD j (0, 0, 0)) (heats h t h.turns) = true) (fun u _ => h.readings.length - (intOf u).toNat)
    case atStart => exact ⟨0, Nat.zero_le _, rfl, Below.refl _ _, fun j hj => by omega⟩
    case round =>
      obtain ⟨k, hk, rfl, hB, hno⟩ := hrel
      obtain ⟨hx1c, _, hx1s⟩ := cells_of_block ((hB.block _ (cells_of_block HX1.out).2.2).trans HX1.out)
      obtain ⟨hx2c, _, hx2s⟩ := cells_of_block ((hB.block _ (cells_of_block HX2.out).2.2).trans HX2.out)
      have hHX := (HX.out.below HB1.out (Nat.le_refl _)).below hB (Nat.le_refl _)
      have HHU := Lib.hid ((HU.out.below HB1.out (Nat.le_refl _)).below hB (Nat.le_refl _))
      have HHT := Lib.hid ((HT.out.below HB1.out (Nat.le_refl _)).below hB (Nat.le_refl _))
      have HN := Lib.hid (And.intro hno hB)
      clear hno hB
      by_cases hlt : k < h.readings.length
      · obtain ⟨b1, off, rfl, hb1, d1, d2, d3⟩ := TriplesAt.cell hHX hlt
        have hltI : (k : Int) < h.readings.length := by omega
        have g1 : h.readings.getD k (0, 0, 0) = h.readings[k] := by simp [List.getD, hlt]
        have hre := right_eq HS.out HL.out (List.getElem_mem hlt)
        have hrd := HS.out.rdg _ (List.getElem_mem hlt)
        have hlo := listed_of HS.out HL.out
        have hwl := HS.out.wetLen
        clear hHX
        generalize h.readings[k] = x at *
        have HG := Lib.hid g1
        have HRD := Lib.hid (show (0 ≤ x.1 ∧ x.1 < t.2.length) ∧ x.1 < 12 ∧ (0 ≤ x.2.1 ∧ x.2.1 ≤ 1000) ∧ 0 ≤ x.2.2 ∧ x.2.2 ≤ 50 from ⟨⟨hrd.1.1, by omega⟩, by omega, hrd.2.1, hrd.2.2⟩)
        have HRE := Lib.hid hre
        clear g1 hre hrd hlo hwl
        cases hxy : rightB h t x
        · obtain rfl : q = false := by
            rw [← HQ.out]
            simp only [isTruth, Bool.and_eq_false_iff]
            right
            rw [List.all_eq_false]
            refine ⟨_, List.getElem_mem hlt, ?_⟩
            have := HG.out
            rw [show h.readings.getD k (0, 0, 0) = h.readings[k] from by simp [List.getD, hlt]] at this
            rw [this, ← HRE.out, hxy]
            simp
          go_wp2_with fail
          refine wp_region_rg 9 [] none [(7, Spec.val (.bool false))] (by kernel_rfl) (by kernel_rfl) ?_
          simp only [List.take_succ_cons, List.take_zero, List.drop_succ_cons, List.drop_zero]
          repeat (first | (refine tree_det (by rfl) _ (by rfl) (fun W hW => by go_simp; (try simp (disch := omega) only [IntWalk.i64_in]); try rfl) ?_; simp only [Act.put, List.setIfInBounds_toArray, List.set_cons_succ, List.set_cons_zero]) | (refine tree_skip (by rfl) (by rfl) ?_; simp only [Act.put, List.setIfInBounds_toArray, List.set_cons_succ, List.set_cons_zero]))
          refine tree_val _ (by rfl) (by rfl) 74 _ (fun W hW => by go_simp; try rfl) (fun W hE hF => by exact by have := Right_any h ow (some ⟨b1, off, none⟩) h.wet.length cw h.readings.length cx (.slice ot h.turns.length ct) t HO.out (.slice ou t.2.length cu) x W (HHU.out.below (Ext.below (show Ext [] wr W from hE)) (Nat.le_refl _)) (HHT.out.below (Ext.below (show Ext [] wr W from hE)) (Nat.le_refl _)) HRD.out.1.1 HRD.out.1.2 HRD.out.2.1 HRD.out.2.2.1.1 HRD.out.2.2.1.2 HRD.out.2.2.2.1 HRD.out.2.2.2.2; rw [hxy] at this; exact this) ?_
          simp only [Act.put, List.setIfInBounds_toArray, List.set_cons_succ, List.set_cons_zero]
          repeat (first | (refine tree_det (by rfl) _ (by rfl) (fun W hW => by go_simp; (try simp (disch := omega) only [IntWalk.i64_in]); try rfl) ?_; simp only [Act.put, List.setIfInBounds_toArray, List.set_cons_succ, List.set_cons_zero]) | (refine tree_skip (by rfl) (by rfl) ?_; simp only [Act.put, List.setIfInBounds_toArray, List.set_cons_succ, List.set_cons_zero]))
          intro W hE hF
          obtain ⟨hc, hf⟩ := bcell hE.below
          have hzE := hE.size
          (try simp only [World.size_alloc] at hzE)
          have HE := Lib.hid hE
          clear hE hF
          go_wp2_with fail
          go_returns
          exact ⟨by simp, bgo HB1.out (bgo HN.out.2 HE.out.below)⟩
        · go_wp2_with fail
          refine wp_region_rg 9 [] none [(7, Spec.val (.bool true))] (by kernel_rfl) (by kernel_rfl) ?_
          simp only [List.take_succ_cons, List.take_zero, List.drop_succ_cons, List.drop_zero]
          repeat (first | (refine tree_det (by rfl) _ (by rfl) (fun W hW => by go_simp; (try simp (disch := omega) only [IntWalk.i64_in]); try rfl) ?_; simp only [Act.put, List.setIfInBounds_toArray, List.set_cons_succ, List.set_cons_zero]) | (refine tree_skip (by rfl) (by rfl) ?_; simp only [Act.put, List.setIfInBounds_toArray, List.set_cons_succ, List.set_cons_zero]))
          refine tree_val _ (by rfl) (by rfl) 74 _ (fun W hW => by go_simp; try rfl) (fun W hE hF => by exact by have := Right_any h ow (some ⟨b1, off, none⟩) h.wet.length cw h.readings.length cx (.slice ot h.turns.length ct) t HO.out (.slice ou t.2.length cu) x W (HHU.out.below (Ext.below (show Ext [] wr W from hE)) (Nat.le_refl _)) (HHT.out.below (Ext.below (show Ext [] wr W from hE)) (Nat.le_refl _)) HRD.out.1.1 HRD.out.1.2 HRD.out.2.1 HRD.out.2.2.1.1 HRD.out.2.2.1.2 HRD.out.2.2.2.1 HRD.out.2.2.2.2; rw [hxy] at this; exact this) ?_
          simp only [Act.put, List.setIfInBounds_toArray, List.set_cons_succ, List.set_cons_zero]
          repeat (first | (refine tree_det (by rfl) _ (by rfl) (fun W hW => by go_simp; (try simp (disch := omega) only [IntWalk.i64_in]); try rfl) ?_; simp only [Act.put, List.setIfInBounds_toArray, List.set_cons_succ, List.set_cons_zero]) | (refine tree_skip (by rfl) (by rfl) ?_; simp only [Act.put, List.setIfInBounds_toArray, List.set_cons_succ, List.set_cons_zero]))
          intro W hE hF
          obtain ⟨hc, hf⟩ := bcell hE.below
          have hzE := hE.size
          (try simp only [World.size_alloc] at hzE)
          have HE := Lib.hid hE
          clear hE hF
          go_wp2_with fail
          go_roundw
          case rel =>
            refine ⟨k + 1, by omega, by go_num, bgo HN.out.2 HE.out.below, fun j hj => ?_⟩
            by_cases e : j = k
            · subst e; rw [HG.out, ← HRE.out]; exact hxy
            · exact HN.out.1 j (by omega)
          case measure => simp [intOf]; omega
      · have hkl : k = h.readings.length := by omega
        obtain rfl : q = true := by
          rw [← HQ.out]
          simp only [isTruth, Bool.and_eq_true]
          exact ⟨HL.out, all_of_at (d := (0, 0, 0)) (p := fun x => rightR x (heats h t h.turns)) fun j hj => HN.out.1 j (by omega)⟩
        clear hHX
        go_wp2_with fail
        go_returns
        exact ⟨by simp, bgo HB1.out HN.out.2⟩

/-- It returns a truth that reads so; nothing that was there has turned. -/
def PTruth (t : Int × List Int) (w : World) (e : Ending) (w' : World) : Prop := ∃ v, e = .returned (.agg #[iv t.1, v]) ∧ IntsAt w' v t.2 ∧ Below w.heap.size w w'

theorem Truth_any (t : Int × List Int) (uv : Value) (w : World) (hu : IntsAt w uv t.2) (hl : t.2.length ≤ 1000) : Calls Try.prog 41 #[.agg #[iv t.1, uv]] w (PTruth t w) := by
  obtain ⟨ou, cu, rfl⟩ := hu.open
  have HU := Lib.hid hu
  clear hu
  go_enter Try.func41, Try.ntmps41
  go_wp2_with fail
  refine gworld fun W1 hW1 => ?_
  have HB1 := Lib.hid (show Below w.heap.size w W1 from by rw [hW1]; exact (by repeat (first | exact Below.refl _ _ | assumption | refine bgo ?_ (by assumption) | refine bgoAlloc ?_ _ | refine bgoDrew ?_ | refine bgoSet ?_ (by simp; omega) _)))
  have HX1 := Lib.hid (show W1.heap[w.heap.size]? = some (.cells #[iv t.1, .slice ou t.2.length cu] 66 (0, 0)) from by rw [hW1]; exact (Below.heap_alloc _ _ _ (by first | omega | (simp; done) | (simp; omega))).trans (heap_new0 _ _))
  have HX2 := Lib.hid (show W1.heap[w.heap.size + 1]? = some (.cells #[iv 0, .slice none 0 0] 71 (0, 0)) from by rw [hW1]; exact heap_new1 _ _ _)
  obtain ⟨hc1, _, hs1⟩ := cells_of_block HX1.out
  have hs2 := (cells_of_block HX2.out).2.2
  clear hW1
  refine wp_region_rg 6 [] none [(4, ⟨fun _ v => ∃ o c, v = .slice o t.2.length c, fun _ v Wx => Wx.ownsRow W1.heap.size 3 1 v t.2.length (intCells t.2)⟩)] (by kernel_rfl) (by kernel_rfl) ?_
  simp only [List.take_succ_cons, List.take_zero, List.drop_succ_cons, List.drop_zero]
  repeat (first | (refine tree_det (by rfl) _ (by rfl) (fun W hW => by go_simp; (try simp (disch := omega) only [IntWalk.i64_in]); try rfl) ?_; simp only [Act.put, List.setIfInBounds_toArray, List.set_cons_succ, List.set_cons_zero]) | (refine tree_skip (by rfl) (by rfl) ?_; simp only [Act.put, List.setIfInBounds_toArray, List.set_cons_succ, List.set_cons_zero]))
  refine tree_some _ (by rfl) (by rfl) (by exact ⟨.slice none (t.2).length 0, none, 0, rfl⟩) (fun W hE hF => ?_) (fun v Wa Wb ho hE => owns_ext (Ms := []) ho hE (by simp)) (fun v hv => ?_)
  · have hE' : Ext [] W1 W := hE
    refine does_enter 22 #[.slice ou t.2.length cu] (by go_simp; try rfl) ?_
    refine (list_any (t.2) _ W ((HU.out.below HB1.out (Nat.le_refl _)).below hE'.below (Nat.le_refl _)) (by omega)).mono ?_
    rintro e W6 ⟨v, rfl, ho, hb⟩
    exact ⟨v, rfl, owns_slice ho, owns_base ho hE'.size, Ext.of_below hb⟩
  obtain ⟨o5, c5, rfl⟩ := hv
  simp only [Act.put, List.setIfInBounds_toArray, List.set_cons_succ, List.set_cons_zero]
  repeat (first | (refine tree_det (by rfl) _ (by rfl) (fun W hW => by go_simp; (try simp (disch := omega) only [IntWalk.i64_in]); try rfl) ?_; simp only [Act.put, List.setIfInBounds_toArray, List.set_cons_succ, List.set_cons_zero]) | (refine tree_skip (by rfl) (by rfl) ?_; simp only [Act.put, List.setIfInBounds_toArray, List.set_cons_succ, List.set_cons_zero]))
  intro W2 hE hF
  have hown : W2.ownsRow W1.heap.size 3 1 (.slice o5 t.2.length c5) t.2.length (intCells t.2) := hF _ (List.Mem.head _)
  have hE' : Ext [] W1 W2 := hE
  have hx2 := (hE'.block _ hs2 (by simp)).trans HX2.out
  obtain ⟨hc2, hf2, hs2'⟩ := cells_of_block hx2
  have HK := Lib.hid (And.intro hown (And.intro hE' hx2))
  clear hE hF hown hE' hx2
  go_wp2_with fail
  refine bodyPost_ret (v := .agg #[iv t.1, .slice o5 t.2.length c5]) (results_cell_row Try.results41 _ _ (w.heap.size + 1) _ _ (0, 0) _ rfl (set_block (set_block HK.out.2.2 _) _) Try.underlying71 rfl (by kernel_rfl)) rfl ?_
  refine ⟨_, rfl, ?_, bgoSet (bgoSet (bgo HB1.out HK.out.2.1.below) (by show w.heap.size ≤ w.heap.size + 1; omega) _) (by show w.heap.size ≤ w.heap.size + 1; omega) _⟩
  refine SlAt.of_owns (owns_keep HK.out.1 fun g hg => ?_)
  have := (owns_ge HK.out.1 g hg).1
  exact (Below.heap_setCell _ _ _ _ (by show g ≠ w.heap.size + 1; omega)).trans (Below.heap_setCell _ _ _ _ (by show g ≠ w.heap.size + 1; omega))

end Go.Proofs.Ytoibfafmnaooaaa
