/-
  The walk of CouchLeft: whatever the heap and the list by bits, it returns true; nothing that was there has turned.
-/
import Derived.WalkKit
import Derived.WalkLawsBesides
import Derived.WalkSpells
import Derived.Outline
import Derived.Handy
import Derived.KernelRfl
import Derived.Lib.Hide
import Derived.Test.YtoibfafmnaooaaaL1
namespace Go.Proofs.Ytoibfafmnaooaaa
open Go.RowKit Go.RG Go.SL Go.Shelf Cou
set_option maxHeartbeats 400000
set_option maxRecDepth 10000

theorem wraps63 (n : Int) (h₀ : 0 ≤ n) (h₁ : n < 2 ^ 63) : IntKind.i64.wrap n = n := by
  exact IntWalk.i64_in _ (by omega)

theorem and_nat (a b : Nat) (ha : a < 2 ^ 63) (hb : b < 2 ^ 63) : bits .and .i64 (a : Int) (b : Int) = ((a &&& b : Nat) : Int) := (bits_nat .i64 63 (by decide) wraps63 a b ha hb).1
theorem or_nat (a b : Nat) (ha : a < 2 ^ 63) (hb : b < 2 ^ 63) : bits .or .i64 (a : Int) (b : Int) = ((a ||| b : Nat) : Int) := (bits_nat .i64 63 (by decide) wraps63 a b ha hb).2

theorem bv_ofInt (a : Nat) : BitVec.ofInt 64 (a : Int) = BitVec.ofNat 64 a := by
  apply BitVec.eq_of_toNat_eq
  simp

theorem andNot_nat (a b : Nat) (ha : a < 2 ^ 63) : ∃ c : Nat, bits .andNot .i64 (a : Int) (b : Int) = (c : Int) ∧ c ≤ a ∧ ∀ i, c.testBit i = (a.testBit i && !b.testBit i) := by
  have key : ∀ i, (BitVec.ofNat 64 a &&& ~~~BitVec.ofNat 64 b).toNat.testBit i = (a.testBit i && !b.testBit i) := by
    intro i
    rw [BitVec.testBit_toNat, BitVec.getLsbD_and, BitVec.getLsbD_not]
    simp only [BitVec.getLsbD_ofNat]
    by_cases hi : i < 64
    · simp [hi]
    · have : a.testBit i = false := Nat.testBit_lt_two_pow (Nat.lt_of_lt_of_le ha (Nat.pow_le_pow_right (by omega) (by omega)))
      simp [hi, this]
  have hle : (BitVec.ofNat 64 a &&& ~~~BitVec.ofNat 64 b).toNat ≤ a := by
    rw [BitVec.toNat_and, BitVec.toNat_ofNat, Nat.mod_eq_of_lt (by omega)]
    exact Nat.and_le_left
  refine ⟨(BitVec.ofNat 64 a &&& ~~~BitVec.ofNat 64 b).toNat, ?_, hle, key⟩
  show IntKind.i64.wrap ((BitVec.ofInt 64 (a : Int) &&& ~~~BitVec.ofInt 64 (b : Int)).toNat : Int) = _
  rw [bv_ofInt, bv_ofInt]
  exact wraps63 _ (by omega) (by omega)

theorem hv_inj {h : HeapD} {a b c a' b' c' : Value} (he : hv h a b c = hv h a' b' c') : a = a' ∧ b = b' ∧ c = c' := by
  simp only [Value.agg.injEq, Array.mk.injEq, List.cons.injEq, and_true, true_and] at he
  exact he

/-- What the law needs of the smallest set. -/
theorem left_plain {h : HeapD} (hS : Sound h) (tr : Nat) : ∃ c, leaveL h = c ∧ Inc h.readings.length 0 c ∧
    (∀ b m : Nat, (∀ j, b.testBit j = c.contains (j : Int)) → (∀ i, m.testBit i = ((2 ^ h.readings.length - 1).testBit i && !b.testBit i)) → askErr (someH h m) [] = 0) ∧
    (∀ m : Nat, (∀ i, m.testBit i = ((2 ^ h.readings.length - 1).testBit i && !(tr &&& (2 ^ h.readings.length - 1)).testBit i)) →
      askErr (someH h m) [] = 11 ∨ (askErr (someH h m) [] = 0 ∧ shorter (bitsL (tr &&& (2 ^ h.readings.length - 1))) c = false)) := by
  obtain ⟨c, hc, h1, h2, h3⟩ := leave_some hS
  refine ⟨c, hc, h2, fun b m hb hm => ?_, fun m hm => ?_⟩
  · refine ask_ok (some_sound hS m) ?_
    rw [can_some (m := m) (fun i hi => by rw [hm, Nat.testBit_two_pow_sub_one, hb, decide_eq_true hi, Bool.true_and])] at h1
    simpa using h1
  · have hlt : tr &&& (2 ^ h.readings.length - 1) < 2 ^ h.readings.length := by
      have : tr &&& (2 ^ h.readings.length - 1) ≤ 2 ^ h.readings.length - 1 := Nat.and_le_right
      have := Nat.one_le_two_pow (n := h.readings.length)
      omega
    have hcan := can_some (h := h) (m := m) (out := bitsL (tr &&& (2 ^ h.readings.length - 1))) (fun i hi => by
      rw [hm, Nat.testBit_two_pow_sub_one, decide_eq_true hi, Bool.true_and, bitsL_eq hlt]
      congr 1
      rw [Bool.eq_iff_iff, List.contains_iff_mem, mem_bitsTo]
      exact ⟨fun e => ⟨i, hi, e, rfl⟩, fun ⟨j, _, e, ej⟩ => by rw [show i = j from by omega]; exact e⟩)
    cases ht : (truthsL (someH h m) []).isEmpty
    · right
      refine ⟨ask_ok (some_sound hS m) ht, h3 _ ?_ (by rw [hcan, ht]; rfl)⟩
      rw [bitsL_eq hlt]
      exact inc_bitsTo _ _
    · exact .inl (ask_no (some_sound hS m) ht)

theorem Full_nat (h : HeapD) (wv tv xv' : Value) (w : World) (hx : TriplesAt w xv' h.readings) (hr : h.readings.length ≤ 5) :
    Calls Try.prog 47 #[hv h wv tv xv'] w (PV (iv ((2 ^ h.readings.length - 1 : Nat) : Int)) w) := by
  rw [← pow_cast]
  exact Full_any h wv tv xv' w hx hr

theorem inc_at {p : Nat} {c : List Int} (h : Inc p 0 c) {k : Nat} (hk : k < c.length) : ∃ n : Nat, c[k] = (n : Int) ∧ n < p := by
  have := ((inc_pairwise _ _).1 h).2 c[k] (List.getElem_mem hk)
  exact ⟨c[k].toNat, by omega, by omega⟩
theorem inc_step {p : Nat} {c : List Int} (h : Inc p 0 c) {k : Nat} (hk : k + 1 < c.length) : c[k] < c[k + 1] :=
  List.pairwise_iff_getElem.1 ((inc_pairwise _ _).1 h).1 k (k + 1) (by omega) hk (by omega)

theorem or_take {c : List Int} {b n k : Nat} (hk : k < c.length) (hn : c[k] = (n : Int)) (hb : ∀ j, b.testBit j = (c.take k).contains (j : Int)) (j : Nat) : (b ||| 2 ^ n).testBit j = (c.take (k + 1)).contains (j : Int) := by
  rw [Nat.testBit_or, hb, Nat.testBit_two_pow, List.take_succ_eq_append_getElem hk, hn, Bool.eq_iff_iff]
  simp only [Bool.or_eq_true, List.contains_iff_mem, List.mem_append, List.mem_singleton, decide_eq_true_eq]
  constructor
  · rintro (h | h)
    · exact .inl h
    · exact .inr (by omega)
  · rintro (h | h)
    · exact .inl h
    · exact .inr (by omega)

set_option maxHeartbeats 4000000 in
theorem CouchLeft_any (h : HeapD) (wv tv xv' : Value) (tr : Nat) (w : World) (hw : PairsAt w wv h.wet) (ht : IntsAt w tv h.turns) (hx : TriplesAt w xv' h.readings) (htr : (tr : Int) ≤ 255) :
    Calls Try.prog 11 #[hv h wv tv xv', .int .u8 tr] w (PV (.bool true) w) := by
  obtain ⟨ow, cw, rfl⟩ := hw.open
  obtain ⟨ot, ct, rfl⟩ := ht.open
  obtain ⟨ox, cx, rfl⟩ := hx.open
  have HW := Lib.hid hw
  have HT := Lib.hid ht
  have HX := Lib.hid hx
  clear hw ht hx
  have HB0 := Lib.hid (Below.refl (w.alloc (.cells #[.int .i64 h.last, .int .i64 h.size, .int .i64 h.cool, .int .i64 h.die, .int .i64 h.burn, .int .i64 h.start.1, .int .i64 h.start.2, .slice ow h.wet.length cw, .slice ot h.turns.length ct, .slice ox h.readings.length cx] 28)).heap.size (w.alloc (.cells #[.int .i64 h.last, .int .i64 h.size, .int .i64 h.cool, .int .i64 h.die, .int .i64 h.burn, .int .i64 h.start.1, .int .i64 h.start.2, .slice ow h.wet.length cw, .slice ot h.turns.length ct, .slice ox h.readings.length cx] 28)))
  cases hr : readyB h
  case false =>
    have HR := Lib.hid hr
    clear hr
    go_enter Try.func11, Try.ntmps11
    go_wp2_with fail
    refine (ready_any h _ _ _ _ ((HW.out.alloc _).below HB0.out (Nat.le_refl _)) ((HT.out.alloc _).below HB0.out (Nat.le_refl _)) ((HX.out.alloc _).below HB0.out (Nat.le_refl _))).mono ?_
    rw [HR.out]
    rintro e W1 ⟨rfl, hb⟩
    (try clear hcr hsr)
    have HD1 := Lib.hid hb
    have HB1 := Lib.hid (bgo HB0.out hb)
    obtain ⟨hcr, _, hsr⟩ := cells_of_block ((HB1.out.block w.heap.size (by simp)).trans (heap_new0 w _))
    clear hb
    go_wp2_with fail
    refine (awake_any _).mono ?_
    rintro e W2 ⟨rfl, hb⟩
    (try clear hcr hsr)
    have HD2 := Lib.hid hb
    have HB2 := Lib.hid (bgo HB1.out hb)
    obtain ⟨hcr, _, hsr⟩ := cells_of_block ((HB2.out.block w.heap.size (by simp)).trans (heap_new0 w _))
    clear hb
    go_wp2_with fail
    go_returns
    exact ⟨by simp, bgo (bgoAlloc (Below.refl _ _) _) HB2.out⟩
  case true =>
    obtain ⟨hS, hf0, _, hl12⟩ := ready_sound hr
    have hw10 : h.wet.length ≤ 10 := by have := hS.wetLen; have := hS.last9; omega
    have hx5 := hS.rdgs
    obtain ⟨c, hc, hinc, hP1, hP2⟩ := left_plain hS tr
    have hclen : c.length ≤ h.readings.length := by have := hinc.len; omega
    have HR := Lib.hid hr
    have HS := Lib.hid hS
    have HF0 := Lib.hid hf0
    have HC := Lib.hid hc
    have HI := Lib.hid hinc
    have HP1 := Lib.hid hP1
    have HP2 := Lib.hid hP2
    clear hr hS hf0 hc hinc hP1 hP2
    go_enter Try.func11, Try.ntmps11
    go_wp2_with fail
    refine (ready_any h _ _ _ _ ((HW.out.alloc _).below HB0.out (Nat.le_refl _)) ((HT.out.alloc _).below HB0.out (Nat.le_refl _)) ((HX.out.alloc _).below HB0.out (Nat.le_refl _))).mono ?_
    rw [HR.out]
    rintro e W1 ⟨rfl, hb⟩
    (try clear hcr hsr)
    have HD1 := Lib.hid hb
    have HB1 := Lib.hid (bgo HB0.out hb)
    obtain ⟨hcr, _, hsr⟩ := cells_of_block ((HB1.out.block w.heap.size (by simp)).trans (heap_new0 w _))
    clear hb
    go_wp2_with fail
    refine (Heap_any h _ _ _ _ ((HW.out.alloc _).below HB1.out (Nat.le_refl _)) ((HT.out.alloc _).below HB1.out (Nat.le_refl _)) ((HX.out.alloc _).below HB1.out (Nat.le_refl _)) (by omega) (by omega) (by omega)).mono ?_
    rintro e W2 ⟨a2, b2, c2, rfl, h1, h2, h3, hb⟩
    (try clear hcr hsr)
    have HD2 := Lib.hid hb
    have HB2 := Lib.hid (bgo HB1.out hb)
    obtain ⟨hcr, _, hsr⟩ := cells_of_block ((HB2.out.block w.heap.size (by simp)).trans (heap_new0 w _))
    clear hb
    have HH2 := Lib.hid (And.intro h1 (And.intro h2 h3))
    clear h1 h2 h3
    go_wp2_with fail
    refine (Leave_any h _ _ _ _ HH2.out.1 HH2.out.2.1 HH2.out.2.2).mono ?_
    rintro e W3 ⟨v, rfl, hv, hb⟩
    rw [HC.out] at hv
    rw [HF0.out]
    (try clear hcr hsr)
    have HD3 := Lib.hid hb
    have HB3 := Lib.hid (bgo HB2.out hb)
    obtain ⟨hcr, _, hsr⟩ := cells_of_block ((HB3.out.block w.heap.size (by simp)).trans (heap_new0 w _))
    clear hb
    obtain ⟨vo, vc, rfl⟩ := hv.open
    have HV := Lib.hid hv
    clear hv
    go_wp2_with fail
    clear hcr hsr
    go_loopw [7, 8] (fun u i wr => ∃ k : Nat, k ≤ c.length ∧ i = .int .i64 k ∧ ∃ b : Nat, u = .int .i64 b ∧ b ≤ 31 ∧ (∀ j, b.testBit j = (c.take k).contains (j : Int)) ∧ Below W3.heap.size W3 wr) (fun _ i _ => c.length - (intOf i).toNat)
    case atStart => exact ⟨0, Nat.zero_le _, rfl, 0, rfl, by omega, fun j => by simp, Below.refl _ _⟩
    case round =>
      obtain ⟨k, hk, rfl, b, rfl, hb31, hbits, hB⟩ := hrel
      obtain ⟨hcr, _, hsr⟩ := cells_of_block (((bgo HB3.out hB).block w.heap.size (by simp)).trans (heap_new0 w _))
      have hHV := HV.out.below hB (Nat.le_refl _)
      have HBI := Lib.hid hbits
      have HB := Lib.hid hB
      clear hbits hB
      have hb31I : (b : Int) ≤ 31 := by omega
      by_cases hlt : k < c.length
      · obtain ⟨bb, off, rfl, hb1, d1⟩ := IntsAt.cell hHV hlt
        obtain ⟨n, hn, hn5⟩ := inc_at HI.out hlt
        have hltI : (k : Int) < c.length := by omega
        have hnI : (n : Int) < h.readings.length := by omega
        obtain ⟨hp1, hp2⟩ := pow_bd (show n ≤ 4 by omega)
        have hp1N : 1 ≤ 2 ^ n := Nat.one_le_two_pow
        have hp2N : 2 ^ n ≤ 2 ^ 4 := Nat.pow_le_pow_right (by omega) (by omega)
        have hor : bits .or .i64 (b : Int) (2 ^ n) = ((b ||| 2 ^ n : Nat) : Int) := by
          have := or_nat b (2 ^ n) (by omega) (by omega)
          simpa using this
        have hnew : b ||| 2 ^ n < 2 ^ 5 := Nat.or_lt_two_pow (by omega) (by omega)
        have HNB := Lib.hid (show ∀ j, (b ||| 2 ^ n).testBit j = (c.take (k + 1)).contains (j : Int) from or_take hlt hn HBI.out)
        have hd1 : decide ((n : Int) < 0) = false := by simp
        have hd2 : decide (h.readings.length ≤ n) = false := by simp; omega
        clear hHV
        cases k with
        | zero =>
          rw [hn] at d1
          simp only [Nat.add_zero] at d1
          have HN := Lib.hid hn
          clear hn
          go_wp2_with fail
          refine wp_region_rg 31 [] none [] (by kernel_rfl) (by kernel_rfl) ?_
          simp only [List.take_succ_cons, List.take_zero, List.drop_succ_cons, List.drop_zero]
          repeat (first | (refine tree_det (by rfl) _ (by rfl) (fun W hW => by go_simp; (try simp (disch := omega) only [IntWalk.i64_in]); try rfl) ?_; simp only [Act.put, List.setIfInBounds_toArray, List.set_cons_succ, List.set_cons_zero]) | (refine tree_skip (by rfl) (by rfl) ?_; simp only [Act.put, List.setIfInBounds_toArray, List.set_cons_succ, List.set_cons_zero]))
          intro W hE hF
          obtain ⟨hc, hf⟩ := bcell hE.below
          have hzE := hE.size
          (try simp only [World.size_alloc] at hzE)
          have HE := Lib.hid hE
          clear hE hF
          go_wp2_with fail
          go_roundw
          case rel => exact ⟨1, by omega, by go_num, b ||| 2 ^ n, rfl, by omega, HNB.out, bgo HB.out HE.out.below⟩
          case measure => simp [intOf]; omega
        | succ m =>
          have hm : m < c.length := by omega
          obtain ⟨bb', off', he, _, d2⟩ := IntsAt.cell (HV.out.below HB.out (Nat.le_refl _)) hm
          cases he
          have hst := inc_step HI.out hlt
          rw [hn] at hst d1
          generalize c[m] = y at *
          have hd3 : decide ((n : Int) ≤ y) = false := by simp; omega
          clear hst
          have HN := Lib.hid hn
          have hmI : (m : Int) < c.length := by omega
          have hsub : ((m + 1 : Nat) : Int) - 1 = (m : Int) := by omega
          clear hn
          go_wp2_with fail
          refine wp_region_rg 31 [] none [] (by kernel_rfl) (by kernel_rfl) ?_
          simp only [List.take_succ_cons, List.take_zero, List.drop_succ_cons, List.drop_zero]
          repeat (first | (refine tree_det (by rfl) _ (by rfl) (fun W hW => by go_simp; (try simp (disch := omega) only [IntWalk.i64_in]); try rfl) ?_; simp only [Act.put, List.setIfInBounds_toArray, List.set_cons_succ, List.set_cons_zero]) | (refine tree_skip (by rfl) (by rfl) ?_; simp only [Act.put, List.setIfInBounds_toArray, List.set_cons_succ, List.set_cons_zero]))
          intro W hE hF
          obtain ⟨hc, hf⟩ := bcell hE.below
          have hzE := hE.size
          (try simp only [World.size_alloc] at hzE)
          have HE := Lib.hid hE
          clear hE hF
          go_wp2_with fail
          go_roundw
          case rel => exact ⟨m + 2, by omega, by go_num, b ||| 2 ^ n, rfl, by omega, HNB.out, bgo HB.out HE.out.below⟩
          case measure => simp [intOf]; omega
      · obtain rfl : k = c.length := by omega
        have HB1 := Lib.hid (show ∀ j, b.testBit j = c.contains (j : Int) from fun j => by have := HBI.out j; rwa [List.take_length] at this)
        obtain ⟨W4, rfl⟩ : ∃ W4 : World, W4 = wr := ⟨_, rfl⟩
        have hb := HB.out
        clear HB
        (try clear hcr hsr)
        have HD4 := Lib.hid hb
        have HB4 := Lib.hid (bgo HB3.out hb)
        obtain ⟨hcr, _, hsr⟩ := cells_of_block ((HB4.out.block w.heap.size (by simp)).trans (heap_new0 w _))
        clear hb
        go_wp2_with fail
        refine (Full_nat h _ _ _ _ ((HX.out.alloc _).below HB4.out (Nat.le_refl _)) (by omega)).mono ?_
        rintro e W5 ⟨rfl, hb⟩
        (try clear hcr hsr)
        have HD5 := Lib.hid hb
        have HB5 := Lib.hid (bgo HB4.out hb)
        obtain ⟨hcr, _, hsr⟩ := cells_of_block ((HB5.out.block w.heap.size (by simp)).trans (heap_new0 w _))
        clear hb
        have hfl : 2 ^ h.readings.length - 1 ≤ 31 := by
          have : 2 ^ h.readings.length ≤ 2 ^ 5 := Nat.pow_le_pow_right (by omega) hx5
          omega
        have hand := and_nat tr (2 ^ h.readings.length - 1) (by omega) (by omega)
        have hnn : tr &&& (2 ^ h.readings.length - 1) < 2 ^ 5 := by
          have : tr &&& (2 ^ h.readings.length - 1) ≤ 2 ^ h.readings.length - 1 := Nat.and_le_right
          omega
        obtain ⟨m1, hm1, hm1l, hm1b⟩ := andNot_nat (2 ^ h.readings.length - 1) b (by omega)
        obtain ⟨m2, hm2, hm2l, hm2b⟩ := andNot_nat (2 ^ h.readings.length - 1) (tr &&& (2 ^ h.readings.length - 1)) (by omega)
        have hE1 := HP1.out b m1 HB1.out hm1b
        have hE2 := HP2.out m2 hm2b
        generalize tr &&& (2 ^ h.readings.length - 1) = nn at *
        generalize hfd : 2 ^ h.readings.length - 1 = fl at *
        have HFL := Lib.hid hfd
        have HM := Lib.hid (And.intro hm1b hm2b)
        have HE1 := Lib.hid hE1
        have HE2 := Lib.hid hE2
        clear hm1b hm2b hE1 hE2 hfd HP1 HP2 HB1 HBI
        have hm1I : (m1 : Int) ≤ 31 := by omega
        have hm2I : (m2 : Int) ≤ 31 := by omega
        go_wp2_with fail
        clear hand
        refine wp_region_rg 13 [] none [(2, Spec.val (iv (fl : Int))), (5, ⟨fun _ v => ∃ c, v = hv (someH h (m1)) (.slice ow h.wet.length cw) (.slice ot h.turns.length ct) c, fun _ v Wx => ∃ c, v = hv (someH h (m1)) (.slice ow h.wet.length cw) (.slice ot h.turns.length ct) c ∧ TriplesAt Wx c (someL (m1) h.readings)⟩), (6, ⟨fun _ v => ∃ a b c, v = hv (someH h m1) a b c, fun _ v Wx => ∃ a b c, v = hv (someH h m1) a b c ∧ PairsAt Wx a (someH h m1).wet ∧ IntsAt Wx b (someH h m1).turns ∧ TriplesAt Wx c (someH h m1).readings⟩), (7, ⟨fun _ v => ∃ x, v = .tuple #[x, iv (0)], fun _ _ _ => True⟩)] (by kernel_rfl) (by kernel_rfl) ?_
        simp only [List.take_succ_cons, List.take_zero, List.drop_succ_cons, List.drop_zero]
        repeat (first | (refine tree_det (by rfl) _ (by rfl) (fun W hW => by go_simp; (try simp (disch := omega) only [IntWalk.i64_in]); try rfl) ?_; simp only [Act.put, List.setIfInBounds_toArray, List.set_cons_succ, List.set_cons_zero]) | (refine tree_skip (by rfl) (by rfl) ?_; simp only [Act.put, List.setIfInBounds_toArray, List.set_cons_succ, List.set_cons_zero]))
        refine tree_val _ (by rfl) (by rfl) 47 _ (fun W hW => by go_simp; try rfl) (fun W hE hF => by exact by have := Full_nat h (.slice ow h.wet.length cw) (.slice ot h.turns.length ct) (.slice ox h.readings.length cx) W (((HX.out.alloc _).below HB5.out (Nat.le_refl _)).below (Ext.below (show Ext [] W5 W from hE)) (Nat.le_refl _)) (by omega); rw [HFL.out] at this; exact this) ?_
        simp only [Act.put, List.setIfInBounds_toArray, List.set_cons_succ, List.set_cons_zero]
        repeat (first | (refine tree_det (by rfl) _ (by rfl) (fun W hW => by go_simp; (try simp (disch := omega) only [IntWalk.i64_in]); try rfl) ?_; simp only [Act.put, List.setIfInBounds_toArray, List.set_cons_succ, List.set_cons_zero]) | (refine tree_skip (by rfl) (by rfl) ?_; simp only [Act.put, List.setIfInBounds_toArray, List.set_cons_succ, List.set_cons_zero]))
        try rw [hm1]
        refine tree_some _ (by rfl) (by rfl) (by exact ⟨_, undef, rfl⟩) (fun W hE hF => ?_) (fun v Wa Wb ho hE => ?_) (fun v hv => ?_)
        · have hE' : Ext [] W5 W := hE
          refine does_enter 46 #[hv h (.slice ow h.wet.length cw) (.slice ot h.turns.length ct) (.slice ox h.readings.length cx), iv ((m1 : Int))] (by go_simp; try rfl) ?_
          refine (some_at h _ _ _ ((m1 : Int)) (m1) W (rfl) (((HW.out.alloc _).below HB5.out (Nat.le_refl _)).below hE'.below (Nat.le_refl _)) (((HT.out.alloc _).below HB5.out (Nat.le_refl _)).below hE'.below (Nat.le_refl _)) (((HX.out.alloc _).below HB5.out (Nat.le_refl _)).below hE'.below (Nat.le_refl _)) (by omega) (by omega)).mono ?_
          rintro e W' ⟨c, rfl, h1, hb⟩
          exact ⟨_, rfl, ⟨c, rfl⟩, ⟨c, rfl, h1⟩, Ext.of_below hb⟩
        · obtain ⟨c, hv, h1⟩ := ho
          exact ⟨c, hv, h1.below (Ext.below (show Ext [] Wa Wb from hE)) (Nat.le_refl _)⟩
        obtain ⟨c5, rfl⟩ := hv
        simp only [Act.put, List.setIfInBounds_toArray, List.set_cons_succ, List.set_cons_zero]
        refine tree_some _ (by rfl) (by rfl) (by exact ⟨_, undef, undef, undef, rfl⟩) (fun W hE hF => ?_) (fun v Wa Wb ho hE => ?_) (fun v hv => ?_)
        · have hE' : Ext [] W5 W := hE
          obtain ⟨c', he, h3⟩ := hF _ (List.Mem.head _) (by kernel_rfl)
          obtain ⟨-, -, rfl⟩ := hv_inj he
          refine does_enter 21 #[hv (someH h (m1)) (.slice ow h.wet.length cw) (.slice ot h.turns.length ct) c5] (by go_simp; try rfl) ?_
          refine (Heap_any (someH h (m1)) _ _ _ W (((HW.out.alloc _).below HB5.out (Nat.le_refl _)).below hE'.below (Nat.le_refl _)) (((HT.out.alloc _).below HB5.out (Nat.le_refl _)).below hE'.below (Nat.le_refl _)) h3 (by show h.wet.length ≤ 1000; omega) (by show h.turns.length ≤ 1000; omega) (by have := someTo_len (m1) h.readings.length h.readings; show (someTo (m1) h.readings h.readings.length).length ≤ 1000; omega)).mono ?_
          rintro e W' ⟨a, b, c, rfl, h1, h2, h3, hb⟩
          exact ⟨_, rfl, ⟨a, b, c, rfl⟩, ⟨a, b, c, rfl, h1, h2, h3⟩, Ext.of_below hb⟩
        · obtain ⟨a, b, c, hv, h1, h2, h3⟩ := ho
          have hB := Ext.below (show Ext [] Wa Wb from hE)
          exact ⟨a, b, c, hv, h1.below hB (Nat.le_refl _), h2.below hB (Nat.le_refl _), h3.below hB (Nat.le_refl _)⟩
        obtain ⟨a6, b6, c6, rfl⟩ := hv
        simp only [Act.put, List.setIfInBounds_toArray, List.set_cons_succ, List.set_cons_zero]
        refine tree_some _ (by rfl) (by rfl) (by exact ⟨_, undef, rfl⟩) (fun W hE hF => ?_) (fun _ _ _ _ _ => trivial) (fun v hv => ?_)
        · obtain ⟨a', b', c', he, h1, h2, h3⟩ := hF _ (List.Mem.head _) (by kernel_rfl)
          obtain ⟨rfl, rfl, rfl⟩ := hv_inj he
          refine does_enter 35 #[hv (someH h m1) a6 b6 c6, .slice none 0 0] (by go_simp; try rfl) ?_
          refine (Bounds_any (someH h m1) _ _ _ (.slice none 0 0) [] W h1 h2 h3 (ints_nil _)).mono ?_
          rintro e W' ⟨x, rfl, _, hb⟩
          exact ⟨_, rfl, ⟨x, by rw [HE1.out]⟩, trivial, Ext.of_below hb⟩
        obtain ⟨x7, rfl⟩ := hv
        simp only [Act.put, List.setIfInBounds_toArray, List.set_cons_succ, List.set_cons_zero]
        repeat (first | (refine tree_det (by rfl) _ (by rfl) (fun W hW => by go_simp; (try simp (disch := omega) only [IntWalk.i64_in]); try rfl) ?_; simp only [Act.put, List.setIfInBounds_toArray, List.set_cons_succ, List.set_cons_zero]) | (refine tree_skip (by rfl) (by rfl) ?_; simp only [Act.put, List.setIfInBounds_toArray, List.set_cons_succ, List.set_cons_zero]))
        intro W6 hE hF
        have hb := Ext.below (show Ext [] W5 W6 from hE)
        (try clear hcr hsr)
        have HD6 := Lib.hid hb
        have HB6 := Lib.hid (bgo HB5.out hb)
        obtain ⟨hcr, _, hsr⟩ := cells_of_block ((HB6.out.block w.heap.size (by simp)).trans (heap_new0 w _))
        clear hb
        clear hE hF
        go_wp2_with fail
        rcases HE2.out with hE2 | ⟨hE2, hsh⟩
        · have HE := Lib.hid hE2
          clear hE2
          refine wp_region_rg 13 [] none [(2, Spec.val (iv (fl : Int))), (5, ⟨fun _ v => ∃ c, v = hv (someH h (m2)) (.slice ow h.wet.length cw) (.slice ot h.turns.length ct) c, fun _ v Wx => ∃ c, v = hv (someH h (m2)) (.slice ow h.wet.length cw) (.slice ot h.turns.length ct) c ∧ TriplesAt Wx c (someL (m2) h.readings)⟩), (6, ⟨fun _ v => ∃ a b c, v = hv (someH h m2) a b c, fun _ v Wx => ∃ a b c, v = hv (someH h m2) a b c ∧ PairsAt Wx a (someH h m2).wet ∧ IntsAt Wx b (someH h m2).turns ∧ TriplesAt Wx c (someH h m2).readings⟩), (7, ⟨fun _ v => ∃ x, v = .tuple #[x, iv (11)], fun _ _ _ => True⟩)] (by kernel_rfl) (by kernel_rfl) ?_
          simp only [List.take_succ_cons, List.take_zero, List.drop_succ_cons, List.drop_zero]
          repeat (first | (refine tree_det (by rfl) _ (by rfl) (fun W hW => by go_simp; (try simp (disch := omega) only [IntWalk.i64_in]); try rfl) ?_; simp only [Act.put, List.setIfInBounds_toArray, List.set_cons_succ, List.set_cons_zero]) | (refine tree_skip (by rfl) (by rfl) ?_; simp only [Act.put, List.setIfInBounds_toArray, List.set_cons_succ, List.set_cons_zero]))
          refine tree_val _ (by rfl) (by rfl) 47 _ (fun W hW => by go_simp; try rfl) (fun W hE hF => by exact by have := Full_nat h (.slice ow h.wet.length cw) (.slice ot h.turns.length ct) (.slice ox h.readings.length cx) W (((HX.out.alloc _).below HB6.out (Nat.le_refl _)).below (Ext.below (show Ext [] W6 W from hE)) (Nat.le_refl _)) (by omega); rw [HFL.out] at this; exact this) ?_
          simp only [Act.put, List.setIfInBounds_toArray, List.set_cons_succ, List.set_cons_zero]
          repeat (first | (refine tree_det (by rfl) _ (by rfl) (fun W hW => by go_simp; (try simp (disch := omega) only [IntWalk.i64_in]); try rfl) ?_; simp only [Act.put, List.setIfInBounds_toArray, List.set_cons_succ, List.set_cons_zero]) | (refine tree_skip (by rfl) (by rfl) ?_; simp only [Act.put, List.setIfInBounds_toArray, List.set_cons_succ, List.set_cons_zero]))
          try rw [hm2]
          refine tree_some _ (by rfl) (by rfl) (by exact ⟨_, undef, rfl⟩) (fun W hE hF => ?_) (fun v Wa Wb ho hE => ?_) (fun v hv => ?_)
          · have hE' : Ext [] W6 W := hE
            refine does_enter 46 #[hv h (.slice ow h.wet.length cw) (.slice ot h.turns.length ct) (.slice ox h.readings.length cx), iv ((m2 : Int))] (by go_simp; try rfl) ?_
            refine (some_at h _ _ _ ((m2 : Int)) (m2) W (rfl) (((HW.out.alloc _).below HB6.out (Nat.le_refl _)).below hE'.below (Nat.le_refl _)) (((HT.out.alloc _).below HB6.out (Nat.le_refl _)).below hE'.below (Nat.le_refl _)) (((HX.out.alloc _).below HB6.out (Nat.le_refl _)).below hE'.below (Nat.le_refl _)) (by omega) (by omega)).mono ?_
            rintro e W' ⟨c, rfl, h1, hb⟩
            exact ⟨_, rfl, ⟨c, rfl⟩, ⟨c, rfl, h1⟩, Ext.of_below hb⟩
          · obtain ⟨c, hv, h1⟩ := ho
            exact ⟨c, hv, h1.below (Ext.below (show Ext [] Wa Wb from hE)) (Nat.le_refl _)⟩
          obtain ⟨c8, rfl⟩ := hv
          simp only [Act.put, List.setIfInBounds_toArray, List.set_cons_succ, List.set_cons_zero]
          refine tree_some _ (by rfl) (by rfl) (by exact ⟨_, undef, undef, undef, rfl⟩) (fun W hE hF => ?_) (fun v Wa Wb ho hE => ?_) (fun v hv => ?_)
          · have hE' : Ext [] W6 W := hE
            obtain ⟨c', he, h3⟩ := hF _ (List.Mem.head _) (by kernel_rfl)
            obtain ⟨-, -, rfl⟩ := hv_inj he
            refine does_enter 21 #[hv (someH h (m2)) (.slice ow h.wet.length cw) (.slice ot h.turns.length ct) c8] (by go_simp; try rfl) ?_
            refine (Heap_any (someH h (m2)) _ _ _ W (((HW.out.alloc _).below HB6.out (Nat.le_refl _)).below hE'.below (Nat.le_refl _)) (((HT.out.alloc _).below HB6.out (Nat.le_refl _)).below hE'.below (Nat.le_refl _)) h3 (by show h.wet.length ≤ 1000; omega) (by show h.turns.length ≤ 1000; omega) (by have := someTo_len (m2) h.readings.length h.readings; show (someTo (m2) h.readings h.readings.length).length ≤ 1000; omega)).mono ?_
            rintro e W' ⟨a, b, c, rfl, h1, h2, h3, hb⟩
            exact ⟨_, rfl, ⟨a, b, c, rfl⟩, ⟨a, b, c, rfl, h1, h2, h3⟩, Ext.of_below hb⟩
          · obtain ⟨a, b, c, hv, h1, h2, h3⟩ := ho
            have hB := Ext.below (show Ext [] Wa Wb from hE)
            exact ⟨a, b, c, hv, h1.below hB (Nat.le_refl _), h2.below hB (Nat.le_refl _), h3.below hB (Nat.le_refl _)⟩
          obtain ⟨a9, b9, c9, rfl⟩ := hv
          simp only [Act.put, List.setIfInBounds_toArray, List.set_cons_succ, List.set_cons_zero]
          refine tree_some _ (by rfl) (by rfl) (by exact ⟨_, undef, rfl⟩) (fun W hE hF => ?_) (fun _ _ _ _ _ => trivial) (fun v hv => ?_)
          · obtain ⟨a', b', c', he, h1, h2, h3⟩ := hF _ (List.Mem.head _) (by kernel_rfl)
            obtain ⟨rfl, rfl, rfl⟩ := hv_inj he
            refine does_enter 35 #[hv (someH h m2) a9 b9 c9, .slice none 0 0] (by go_simp; try rfl) ?_
            refine (Bounds_any (someH h m2) _ _ _ (.slice none 0 0) [] W h1 h2 h3 (ints_nil _)).mono ?_
            rintro e W' ⟨x, rfl, _, hb⟩
            exact ⟨_, rfl, ⟨x, by rw [HE.out]⟩, trivial, Ext.of_below hb⟩
          obtain ⟨x10, rfl⟩ := hv
          simp only [Act.put, List.setIfInBounds_toArray, List.set_cons_succ, List.set_cons_zero]
          repeat (first | (refine tree_det (by rfl) _ (by rfl) (fun W hW => by go_simp; (try simp (disch := omega) only [IntWalk.i64_in]); try rfl) ?_; simp only [Act.put, List.setIfInBounds_toArray, List.set_cons_succ, List.set_cons_zero]) | (refine tree_skip (by rfl) (by rfl) ?_; simp only [Act.put, List.setIfInBounds_toArray, List.set_cons_succ, List.set_cons_zero]))
          intro W7 hE hF
          have hb := Ext.below (show Ext [] W6 W7 from hE)
          (try clear hcr hsr)
          have HD7 := Lib.hid hb
          have HB7 := Lib.hid (bgo HB6.out hb)
          obtain ⟨hcr, _, hsr⟩ := cells_of_block ((HB7.out.block w.heap.size (by simp)).trans (heap_new0 w _))
          clear hb
          clear hE hF
          go_wp2_with fail
          refine (awake_any _).mono ?_
          rintro e W8 ⟨rfl, hb⟩
          (try clear hcr hsr)
          have HD8 := Lib.hid hb
          have HB8 := Lib.hid (bgo HB7.out hb)
          obtain ⟨hcr, _, hsr⟩ := cells_of_block ((HB8.out.block w.heap.size (by simp)).trans (heap_new0 w _))
          clear hb
          go_wp2_with fail
          go_returns
          exact ⟨by simp, bgo (bgoAlloc (Below.refl _ _) _) HB8.out⟩
        · have HE := Lib.hid hE2
          have HSH := Lib.hid hsh
          clear hE2 hsh
          refine wp_region_rg 13 [] none [(2, Spec.val (iv (fl : Int))), (5, ⟨fun _ v => ∃ c, v = hv (someH h (m2)) (.slice ow h.wet.length cw) (.slice ot h.turns.length ct) c, fun _ v Wx => ∃ c, v = hv (someH h (m2)) (.slice ow h.wet.length cw) (.slice ot h.turns.length ct) c ∧ TriplesAt Wx c (someL (m2) h.readings)⟩), (6, ⟨fun _ v => ∃ a b c, v = hv (someH h m2) a b c, fun _ v Wx => ∃ a b c, v = hv (someH h m2) a b c ∧ PairsAt Wx a (someH h m2).wet ∧ IntsAt Wx b (someH h m2).turns ∧ TriplesAt Wx c (someH h m2).readings⟩), (7, ⟨fun _ v => ∃ x, v = .tuple #[x, iv (0)], fun _ _ _ => True⟩)] (by kernel_rfl) (by kernel_rfl) ?_
          simp only [List.take_succ_cons, List.take_zero, List.drop_succ_cons, List.drop_zero]
          repeat (first | (refine tree_det (by rfl) _ (by rfl) (fun W hW => by go_simp; (try simp (disch := omega) only [IntWalk.i64_in]); try rfl) ?_; simp only [Act.put, List.setIfInBounds_toArray, List.set_cons_succ, List.set_cons_zero]) | (refine tree_skip (by rfl) (by rfl) ?_; simp only [Act.put, List.setIfInBounds_toArray, List.set_cons_succ, List.set_cons_zero]))
          refine tree_val _ (by rfl) (by rfl) 47 _ (fun W hW => by go_simp; try rfl) (fun W hE hF => by exact by have := Full_nat h (.slice ow h.wet.length cw) (.slice ot h.turns.length ct) (.slice ox h.readings.length cx) W (((HX.out.alloc _).below HB6.out (Nat.le_refl _)).below (Ext.below (show Ext [] W6 W from hE)) (Nat.le_refl _)) (by omega); rw [HFL.out] at this; exact this) ?_
          simp only [Act.put, List.setIfInBounds_toArray, List.set_cons_succ, List.set_cons_zero]
          repeat (first | (refine tree_det (by rfl) _ (by rfl) (fun W hW => by go_simp; (try simp (disch := omega) only [IntWalk.i64_in]); try rfl) ?_; simp only [Act.put, List.setIfInBounds_toArray, List.set_cons_succ, List.set_cons_zero]) | (refine tree_skip (by rfl) (by rfl) ?_; simp only [Act.put, List.setIfInBounds_toArray, List.set_cons_succ, List.set_cons_zero]))
          try rw [hm2]
          refine tree_some _ (by rfl) (by rfl) (by exact ⟨_, undef, rfl⟩) (fun W hE hF => ?_) (fun v Wa Wb ho hE => ?_) (fun v hv => ?_)
          · have hE' : Ext [] W6 W := hE
            refine does_enter 46 #[hv h (.slice ow h.wet.length cw) (.slice ot h.turns.length ct) (.slice ox h.readings.length cx), iv ((m2 : Int))] (by go_simp; try rfl) ?_
            refine (some_at h _ _ _ ((m2 : Int)) (m2) W (rfl) (((HW.out.alloc _).below HB6.out (Nat.le_refl _)).below hE'.below (Nat.le_refl _)) (((HT.out.alloc _).below HB6.out (Nat.le_refl _)).below hE'.below (Nat.le_refl _)) (((HX.out.alloc _).below HB6.out (Nat.le_refl _)).below hE'.below (Nat.le_refl _)) (by omega) (by omega)).mono ?_
            rintro e W' ⟨c, rfl, h1, hb⟩
            exact ⟨_, rfl, ⟨c, rfl⟩, ⟨c, rfl, h1⟩, Ext.of_below hb⟩
          · obtain ⟨c, hv, h1⟩ := ho
            exact ⟨c, hv, h1.below (Ext.below (show Ext [] Wa Wb from hE)) (Nat.le_refl _)⟩
          obtain ⟨c8, rfl⟩ := hv
          simp only [Act.put, List.setIfInBounds_toArray, List.set_cons_succ, List.set_cons_zero]
          refine tree_some _ (by rfl) (by rfl) (by exact ⟨_, undef, undef, undef, rfl⟩) (fun W hE hF => ?_) (fun v Wa Wb ho hE => ?_) (fun v hv => ?_)
          · have hE' : Ext [] W6 W := hE
            obtain ⟨c', he, h3⟩ := hF _ (List.Mem.head _) (by kernel_rfl)
            obtain ⟨-, -, rfl⟩ := hv_inj he
            refine does_enter 21 #[hv (someH h (m2)) (.slice ow h.wet.length cw) (.slice ot h.turns.length ct) c8] (by go_simp; try rfl) ?_
            refine (Heap_any (someH h (m2)) _ _ _ W (((HW.out.alloc _).below HB6.out (Nat.le_refl _)).below hE'.below (Nat.le_refl _)) (((HT.out.alloc _).below HB6.out (Nat.le_refl _)).below hE'.below (Nat.le_refl _)) h3 (by show h.wet.length ≤ 1000; omega) (by show h.turns.length ≤ 1000; omega) (by have := someTo_len (m2) h.readings.length h.readings; show (someTo (m2) h.readings h.readings.length).length ≤ 1000; omega)).mono ?_
            rintro e W' ⟨a, b, c, rfl, h1, h2, h3, hb⟩
            exact ⟨_, rfl, ⟨a, b, c, rfl⟩, ⟨a, b, c, rfl, h1, h2, h3⟩, Ext.of_below hb⟩
          · obtain ⟨a, b, c, hv, h1, h2, h3⟩ := ho
            have hB := Ext.below (show Ext [] Wa Wb from hE)
            exact ⟨a, b, c, hv, h1.below hB (Nat.le_refl _), h2.below hB (Nat.le_refl _), h3.below hB (Nat.le_refl _)⟩
          obtain ⟨a9, b9, c9, rfl⟩ := hv
          simp only [Act.put, List.setIfInBounds_toArray, List.set_cons_succ, List.set_cons_zero]
          refine tree_some _ (by rfl) (by rfl) (by exact ⟨_, undef, rfl⟩) (fun W hE hF => ?_) (fun _ _ _ _ _ => trivial) (fun v hv => ?_)
          · obtain ⟨a', b', c', he, h1, h2, h3⟩ := hF _ (List.Mem.head _) (by kernel_rfl)
            obtain ⟨rfl, rfl, rfl⟩ := hv_inj he
            refine does_enter 35 #[hv (someH h m2) a9 b9 c9, .slice none 0 0] (by go_simp; try rfl) ?_
            refine (Bounds_any (someH h m2) _ _ _ (.slice none 0 0) [] W h1 h2 h3 (ints_nil _)).mono ?_
            rintro e W' ⟨x, rfl, _, hb⟩
            exact ⟨_, rfl, ⟨x, by rw [HE.out]⟩, trivial, Ext.of_below hb⟩
          obtain ⟨x10, rfl⟩ := hv
          simp only [Act.put, List.setIfInBounds_toArray, List.set_cons_succ, List.set_cons_zero]
          repeat (first | (refine tree_det (by rfl) _ (by rfl) (fun W hW => by go_simp; (try simp (disch := omega) only [IntWalk.i64_in]); try rfl) ?_; simp only [Act.put, List.setIfInBounds_toArray, List.set_cons_succ, List.set_cons_zero]) | (refine tree_skip (by rfl) (by rfl) ?_; simp only [Act.put, List.setIfInBounds_toArray, List.set_cons_succ, List.set_cons_zero]))
          intro W7 hE hF
          have hb := Ext.below (show Ext [] W6 W7 from hE)
          (try clear hcr hsr)
          have HD7 := Lib.hid hb
          have HB7 := Lib.hid (bgo HB6.out hb)
          obtain ⟨hcr, _, hsr⟩ := cells_of_block ((HB7.out.block w.heap.size (by simp)).trans (heap_new0 w _))
          clear hb
          clear hE hF
          go_wp2_with fail
          refine (Bits_any nn 5 _ hnn (by omega)).mono ?_
          rintro e W8 ⟨v8, rfl, hv8, hb⟩
          (try clear hcr hsr)
          have HD8 := Lib.hid hb
          have HB8 := Lib.hid (bgo HB7.out hb)
          obtain ⟨hcr, _, hsr⟩ := cells_of_block ((HB8.out.block w.heap.size (by simp)).trans (heap_new0 w _))
          clear hb
          obtain ⟨o8, c8', rfl⟩ := hv8.open
          have HV8 := Lib.hid hv8
          clear hv8
          go_wp2_with fail
          refine (Shorter_any (bitsL nn) c _ _ _ HV8.out (((((HV.out.below HD4.out (Nat.le_refl _)).below HD5.out (Nat.le_refl _)).below HD6.out (Nat.le_refl _)).below HD7.out (Nat.le_refl _)).below HD8.out (Nat.le_refl _))).mono ?_
          rw [HSH.out]
          rintro e W9 ⟨rfl, hb⟩
          (try clear hcr hsr)
          have HD9 := Lib.hid hb
          have HB9 := Lib.hid (bgo HB8.out hb)
          obtain ⟨hcr, _, hsr⟩ := cells_of_block ((HB9.out.block w.heap.size (by simp)).trans (heap_new0 w _))
          clear hb
          go_wp2_with fail
          refine (awake_any _).mono ?_
          rintro e W10 ⟨rfl, hb⟩
          (try clear hcr hsr)
          have HD10 := Lib.hid hb
          have HB10 := Lib.hid (bgo HB9.out hb)
          obtain ⟨hcr, _, hsr⟩ := cells_of_block ((HB10.out.block w.heap.size (by simp)).trans (heap_new0 w _))
          clear hb
          go_wp2_with fail
          go_returns
          exact ⟨by simp, bgo (bgoAlloc (Below.refl _ _) _) HB10.out⟩

end Go.Proofs.Ytoibfafmnaooaaa
