/-
  The walk of CouchFirst: whatever the heap, it returns true; nothing that was there has turned.
  The walk of CouchLeft: whatever the heap and the list by bits, it returns true; nothing that was there has turned.
  Contracts of the reference: Heat, Right. Contracts of the reference: IsListed, IsTruth; of the law: fault, Truth. Contracts of the reference: IsTruth; of the law: Truth.
-/
import Derived.WalkKit
import Derived.WalkLawsBesides
import Derived.WalkSpells
import Derived.Outline
import Derived.Handy
import Derived.KernelRfl
import Derived.Lib.Hide
import Derived.Test.YtoibfafmnaooaaaGreatWE
import Derived.Test.YtoibfafmnaooaaaGreatSA
namespace Go.Proofs.YtoibfafmnaooaaaGreat
open Go.RowKit Go.RG Go.SL Go.Shelf Cou
set_option maxHeartbeats 400000
set_option maxRecDepth 10000

theorem ask_of {h : HeapD} (hS : Sound h) : askErr h [] = if (truthsL h []).isEmpty then 11 else 0 := by
  unfold askErr
  rw [if_neg (by rw [fault_sound hS]; simp), if_neg (by simp [isTurns, turnsFrom])]
theorem ask_ok {h : HeapD} (hS : Sound h) (ht : (truthsL h []).isEmpty = false) : askErr h [] = 0 := by rw [ask_of hS, ht]; rfl
theorem ask_no {h : HeapD} (hS : Sound h) (ht : (truthsL h []).isEmpty = true) : askErr h [] = 11 := by rw [ask_of hS, ht]; rfl

theorem pow_cast (n : Nat) : (2 : Int) ^ n - 1 = ((2 ^ n - 1 : Nat) : Int) := by
  have := Nat.one_le_two_pow (n := n)
  rw [Int.natCast_sub this]
  simp
theorem pow_cast2 (n : Nat) : 2 * (2 : Int) ^ n - 1 = ((2 ^ (n + 1) - 1 : Nat) : Int) := by
  rw [← pow_cast, Int.pow_succ]
  omega
end Go.Proofs.YtoibfafmnaooaaaGreat

namespace Go.Proofs.YtoibfafmnaooaaaGreat
open Go.RowKit Go.RG Go.SL Go.Shelf Cou
set_option maxHeartbeats 400000
set_option maxRecDepth 10000

theorem wraps63 (n : Int) (h₀ : 0 ≤ n) (h₁ : n < 2 ^ 63) : IntKind.i64.wrap n = n := by
  exact IntWalk.i64_in _ (by omega)

theorem and_nat (a b : Nat) (ha : a < 2 ^ 63) (hb : b < 2 ^ 63) : bits .and .i64 (a : Int) (b : Int) = ((a &&& b : Nat) : Int) := (bits_nat .i64 63 (by decide) wraps63 a b ha hb).1
theorem or_nat (a b : Nat) (ha : a < 2 ^ 63) (hb : b < 2 ^ 63) : bits .or .i64 (a : Int) (b : Int) = ((a ||| b : Nat) : Int) := (bits_nat .i64 63 (by decide) wraps63 a b ha hb).2

theorem bv_ofInt (a : Nat) : BitVec.ofInt 64 (a : Int) = BitVec.ofNat 64 a := by
  apply BitVec.eq_of_toNat_eq
  simp

theorem andNot_nat (a b : Nat) (ha : a < 2 ^ 63) : ∃ c : Nat, bits .andNot .i64 (a : Int) (b : Int) = (c : Int) ∧ c ≤ a ∧ ∀ i, c.testBit i = (a.testBit i && !b.testBit i) := by
  have key : ∀ i, (BitVec.ofNat 64 a &&& ~~~BitVec.ofNat 64 b).toNat.testBit i = (a.testBit i && !b.testBit i) := by
    intro i
    rw [BitVec.testBit_toNat, BitVec.getLsbD_and, BitVec.getLsbD_not]
    simp only [BitVec.getLsbD_ofNat]
    by_cases hi : i < 64
    · simp [hi]
    · have : a.testBit i = false := Nat.testBit_lt_two_pow (Nat.lt_of_lt_of_le ha (Nat.pow_le_pow_right (by omega) (by omega)))
      simp [hi, this]
  have hle : (BitVec.ofNat 64 a &&& ~~~BitVec.ofNat 64 b).toNat ≤ a := by
    rw [BitVec.toNat_and, BitVec.toNat_ofNat, Nat.mod_eq_of_lt (by omega)]
    exact Nat.and_le_left
  refine ⟨(BitVec.ofNat 64 a &&& ~~~BitVec.ofNat 64 b).toNat, ?_, hle, key⟩
  show IntKind.i64.wrap ((BitVec.ofInt 64 (a : Int) &&& ~~~BitVec.ofInt 64 (b : Int)).toNat : Int) = _
  rw [bv_ofInt, bv_ofInt]
  exact wraps63 _ (by omega) (by omega)

theorem hv_inj {h : HeapD} {a b c a' b' c' : Value} (he : hv h a b c = hv h a' b' c') : a = a' ∧ b = b' ∧ c = c' := by
  simp only [Value.agg.injEq, Array.mk.injEq, List.cons.injEq, and_true, true_and] at he
  exact he

/-- What the law needs of the smallest set. -/
theorem left_plain {h : HeapD} (hS : Sound h) (tr : Nat) : ∃ c, leaveL h = c ∧ Inc h.readings.length 0 c ∧
    (∀ b m : Nat, (∀ j, b.testBit j = c.contains (j : Int)) → (∀ i, m.testBit i = ((2 ^ h.readings.length - 1).testBit i && !b.testBit i)) → askErr (someH h m) [] = 0) ∧
    (∀ m : Nat, (∀ i, m.testBit i = ((2 ^ h.readings.length - 1).testBit i && !(tr &&& (2 ^ h.readings.length - 1)).testBit i)) →
      askErr (someH h m) [] = 11 ∨ (askErr (someH h m) [] = 0 ∧ shorter (bitsL (tr &&& (2 ^ h.readings.length - 1))) c = false)) := by
  obtain ⟨c, hc, h1, h2, h3⟩ := leave_some hS
  refine ⟨c, hc, h2, fun b m hb hm => ?_, fun m hm => ?_⟩
  · refine ask_ok (some_sound hS m) ?_
    rw [can_some (m := m) (fun i hi => by rw [hm, Nat.testBit_two_pow_sub_one, hb, decide_eq_true hi, Bool.true_and])] at h1
    simpa using h1
  · have hlt : tr &&& (2 ^ h.readings.length - 1) < 2 ^ h.readings.length := by
      have : tr &&& (2 ^ h.readings.length - 1) ≤ 2 ^ h.readings.length - 1 := Nat.and_le_right
      have := Nat.one_le_two_pow (n := h.readings.length)
      omega
    have hcan := can_some (h := h) (m := m) (out := bitsL (tr &&& (2 ^ h.readings.length - 1))) (fun i hi => by
      rw [hm, Nat.testBit_two_pow_sub_one, decide_eq_true hi, Bool.true_and, bitsL_eq hlt]
      congr 1
      rw [Bool.eq_iff_iff, List.contains_iff_mem, mem_bitsTo]
      exact ⟨fun e => ⟨i, hi, e, rfl⟩, fun ⟨j, _, e, ej⟩ => by rw [show i = j from by omega]; exact e⟩)
    cases ht : (truthsL (someH h m) []).isEmpty
    · right
      refine ⟨ask_ok (some_sound hS m) ht, h3 _ ?_ (by rw [hcan, ht]; rfl)⟩
      rw [bitsL_eq hlt]
      exact inc_bitsTo _ _
    · exact .inl (ask_no (some_sound hS m) ht)

theorem Full_nat (h : HeapD) (wv tv xv' : Value) (w : World) (hx : TriplesAt w xv' h.readings) (hr : h.readings.length ≤ 5) :
    Calls Tryz.prog 45 #[hv h wv tv xv'] w (PV (iv ((2 ^ h.readings.length - 1 : Nat) : Int)) w) := by
  rw [← pow_cast]
  exact Full_any h wv tv xv' w hx hr

theorem inc_at {p : Nat} {c : List Int} (h : Inc p 0 c) {k : Nat} (hk : k < c.length) : ∃ n : Nat, c[k] = (n : Int) ∧ n < p := by
  have := ((inc_pairwise _ _).1 h).2 c[k] (List.getElem_mem hk)
  exact ⟨c[k].toNat, by omega, by omega⟩
theorem inc_step {p : Nat} {c : List Int} (h : Inc p 0 c) {k : Nat} (hk : k + 1 < c.length) : c[k] < c[k + 1] :=
  List.pairwise_iff_getElem.1 ((inc_pairwise _ _).1 h).1 k (k + 1) (by omega) hk (by omega)

theorem or_take {c : List Int} {b n k : Nat} (hk : k < c.length) (hn : c[k] = (n : Int)) (hb : ∀ j, b.testBit j = (c.take k).contains (j : Int)) (j : Nat) : (b ||| 2 ^ n).testBit j = (c.take (k + 1)).contains (j : Int) := by
  rw [Nat.testBit_or, hb, Nat.testBit_two_pow, List.take_succ_eq_append_getElem hk, hn, Bool.eq_iff_iff]
  simp only [Bool.or_eq_true, List.contains_iff_mem, List.mem_append, List.mem_singleton, decide_eq_true_eq]
  constructor
  · rintro (h | h)
    · exact .inl h
    · exact .inr (by omega)
  · rintro (h | h)
    · exact .inl h
    · exact .inr (by omega)

end Go.Proofs.YtoibfafmnaooaaaGreat

namespace Go.Proofs.YtoibfafmnaooaaaGreat
open Go.RowKit Go.RG Go.SL Go.Shelf Cou
set_option maxHeartbeats 400000
set_option maxRecDepth 10000

/-- What the heats need of a heap and a truth. -/
structure HeatOk (h : HeapD) (t : Int × List Int) : Prop where
  size0 : 0 ≤ h.size
  size1 : h.size ≤ 20
  cool0 : 0 ≤ h.cool
  cool1 : h.cool ≤ 100
  start0 : 0 ≤ t.1
  start1 : t.1 ≤ 500
  wet : ∀ x ∈ t.2, 0 ≤ x ∧ x ≤ 20

theorem heatOk_of {h : HeapD} (hS : Sound h) {t : Int × List Int} (hl : listedT h t = true) : HeatOk h t := by
  obtain ⟨_, _, h1, h2, h3⟩ := listed_of hS hl
  exact ⟨hS.size0, hS.size1, hS.cool0, hS.cool1, h1, h2, h3⟩

theorem HeatOk.bd {h : HeapD} {t : Int × List Int} (hO : HeatOk h t) (turns : List Int) (k : Nat) : 0 ≤ heatAt h.size h.cool turns t.1 t.2 k ∧ heatAt h.size h.cool turns t.1 t.2 k ≤ 500 + 40 * k :=
  heatAt_bd turns t.2 hO.size0 hO.size1 hO.cool0 hO.cool1 hO.start0 hO.start1 hO.wet k

set_option maxHeartbeats 2000000 in
theorem Heat_any (h : HeapD) (wv tv xv' : Value) (t : Int × List Int) (hO : HeatOk h t) (uv rv' : Value) (turns : List Int) :
    ∀ (k : Nat) (w : World), k ≤ t.2.length → k ≤ 12 → IntsAt w uv t.2 → IntsAt w rv' turns → (∃ o n c, wv = .slice o n c) → (∃ o n c, tv = .slice o n c) → (∃ o n c, xv' = .slice o n c) →
      Calls Tryz.prog 47 #[hv h wv tv xv', .agg #[iv t.1, uv], rv', iv ((k : Int) - 1)] w (PV (iv (heatAt h.size h.cool turns t.1 t.2 k)) w) := by
  intro k
  induction k with
  | zero =>
    intro w _ _ hu hr h1 h2 h3
    obtain ⟨o1, c1, rfl⟩ := hu.open
    obtain ⟨o2, c2, rfl⟩ := hr.open
    obtain ⟨oa, na, ca, rfl⟩ := h1
    obtain ⟨ob, nb, cb, rfl⟩ := h2
    obtain ⟨oc, nc, cc, rfl⟩ := h3
    clear hu hr
    go_enter Tryz.func47, Tryz.ntmps47
    go_wp2
    go_returns
    exact ⟨by simp [heatAt], (by repeat (first | exact Below.refl _ _ | assumption | refine bgo ?_ (by assumption) | refine bgoAlloc ?_ _ | refine bgoDrew ?_ | refine bgoSet ?_ (by simp; omega) _))⟩
  | succ k ih =>
    intro w hk hk12 hu hr h1 h2 h3
    have hk' : k < t.2.length := by omega
    have hbd := hO.bd turns k
    have hx := hO.wet _ (List.getElem_mem hk')
    have hval : heatAt h.size h.cool turns t.1 t.2 (k + 1) = cooled h.cool (heatAt h.size h.cool turns t.1 t.2 k) (turns.contains (k : Int)) + h.size * t.2[k] / 10 := by
      simp [heatAt, stepH, List.getD, hk']
    have hs0 := hO.size0
    have hs1 := hO.size1
    have hc0 := hO.cool0
    have hc1 := hO.cool1
    have hcb := cooled_bd hc0 hc1 hbd.1 (turns.contains (k : Int))
    obtain ⟨o1, c1, rfl⟩ := hu.open
    obtain ⟨o2, c2, rfl⟩ := hr.open
    obtain ⟨oa, na, ca, rfl⟩ := h1
    obtain ⟨ob, nb, cb, rfl⟩ := h2
    obtain ⟨oc, nc, cc, rfl⟩ := h3
    obtain ⟨b, off, rfl, hb1, d1⟩ := IntsAt.cell hu hk'
    have HU := Lib.hid hu
    have HR := Lib.hid hr
    have HIH := Lib.hid ih
    have hkI : ((k + 1 : Nat) : Int) - 1 = (k : Int) := by omega
    rw [hkI]
    have hlen := hu.len
    clear hu hr ih hkI
    obtain ⟨m, hm⟩ : ∃ m, heatAt h.size h.cool turns t.1 t.2 k = m := ⟨_, rfl⟩
    obtain ⟨q, hq⟩ : ∃ q, heatAt h.size h.cool turns t.1 t.2 (k + 1) = q := ⟨_, rfl⟩
    rw [hm] at hbd hval hcb
    rw [hq] at hval
    rw [hq]
    generalize t.2[k] = x at *
    obtain ⟨hm0, hm1⟩ := hbd
    obtain ⟨hx0, hx1⟩ := hx
    have hsx0 : 0 ≤ h.size * x := Int.mul_nonneg hs0 hx0
    have hsx1 : h.size * x ≤ 20 * 20 := Int.mul_le_mul hs1 hx1 hx0 (by omega)
    have hsx2 : h.size * x ≤ 400 := by omega
    have hmc0 : 0 ≤ m * h.cool := Int.mul_nonneg hm0 hc0
    have hmc1 : m * h.cool ≤ m * 100 := Int.mul_le_mul_of_nonneg_left hc1 hm0
    have hmc2 : m * h.cool ≤ 200000 := by omega
    have hm2 : m ≤ 1000 := by omega
    obtain ⟨bt, hbt⟩ : ∃ bt, turns.contains (k : Int) = bt := ⟨_, rfl⟩
    rw [hbt] at hval hcb
    have HM := Lib.hid (And.intro hm (And.intro hbt hval))
    have hkk : k ≤ 12 := by omega
    have hkl : (k : Int) < t.2.length := by omega
    clear hm hq hbt hval hsx1 hm1 hcb hk12
    have HO := Lib.hid hO
    clear hO
    go_enter Tryz.func47, Tryz.ntmps47
    go_wp2_with fail
    refine (HIH.out _ (by omega) hkk ((HU.out.alloc _).alloc _) ((HR.out.alloc _).alloc _) ⟨_, _, _, rfl⟩ ⟨_, _, _, rfl⟩ ⟨_, _, _, rfl⟩).mono ?_
    rw [HM.out.1]
    rintro e W1 ⟨rfl, hb⟩
    obtain ⟨hc, hf⟩ := bcell hb
    have hz0 : w.heap.size + 1 < W1.heap.size := by have := hb.size; simp only [World.size_alloc] at this; omega
    have hz1 : b < W1.heap.size := by omega
    have HB1 := Lib.hid hb
    clear hb HIH
    go_wp2_with fail
    refine (Has_any turns _ (k : Int) _ (((HR.out.alloc _).alloc _).below HB1.out (Nat.le_refl _))).mono ?_
    rw [HM.out.2.1]
    rintro e W2 ⟨rfl, hb⟩
    have hz2 : w.heap.size + 1 < W2.heap.size := by have := hb.size; omega
    have d1' : W2.cell? ⟨b, off + k, none⟩ = some (.int .i64 x) := by
      rw [(bcell hb).1 b _ hz1, hc b _ (by simp; omega)]
      exact ((((Below.refl w.heap.size w).alloc (Nat.le_refl _) _).alloc (by simp) _).cell (p := ⟨b, off + k, none⟩) hb1).trans d1
    have HB2 := Lib.hid hb
    obtain ⟨hx1c, _, hx1s⟩ := cells_of_block ((hb.block w.heap.size (by omega)).trans ((HB1.out.block _ (by simp; omega)).trans ((Below.heap_alloc _ _ _ (by simp)).trans (heap_new0 _ _))))
    obtain ⟨hx2c, _, hx2s⟩ := cells_of_block ((hb.block (w.heap.size + 1) (by omega)).trans ((HB1.out.block _ (by simp)).trans (heap_new1 _ _ _)))
    clear hb hc hf d1
    have hz3 : b < W2.heap.size := by omega
    cases bt
    · have hmq : q = m + h.size * x / 10 := by rw [HM.out.2.2]; rfl
      have HMQ := Lib.hid hmq
      clear hmq
      go_wp2_with fail
      refine wp_region_rg 12 [] none [] (by kernel_rfl) (by kernel_rfl) ?_
      simp only [List.take_succ_cons, List.take_zero, List.drop_succ_cons, List.drop_zero]
      repeat (first | (refine tree_det (by rfl) _ (by rfl) (fun W hW => by go_simp; (try simp (disch := omega) only [IntWalk.i64_in, Int.tdiv_eq_ediv_of_nonneg]); try rfl) ?_; simp only [Act.put, List.setIfInBounds_toArray, List.set_cons_succ, List.set_cons_zero]) | (refine tree_skip (by rfl) (by rfl) ?_; simp only [Act.put, List.setIfInBounds_toArray, List.set_cons_succ, List.set_cons_zero]))
      intro W3 hE hF
      have HE := Lib.hid (show Ext [] W2 W3 from hE)
      clear hE hF
      go_wp2_with fail
      go_returns
      exact ⟨by rw [HMQ.out]; simp, bgo (bgo (bgo (bgoAlloc (bgoAlloc (Below.refl _ _) _) _) HB1.out) HB2.out) HE.out.below⟩
    · have hmq : q = m - m * h.cool / 100 + h.size * x / 10 := by rw [HM.out.2.2]; rfl
      have HMQ := Lib.hid hmq
      clear hmq
      go_wp2_with fail
      have hdv : m * h.cool / 100 ≤ m := by omega
      have hdv0 : 0 ≤ m * h.cool / 100 := by omega
      clear hmc0 hmc1 hmc2
      generalize m * h.cool / 100 = y at *
      refine wp_region_rg 12 [] none [] (by kernel_rfl) (by kernel_rfl) ?_
      simp only [List.take_succ_cons, List.take_zero, List.drop_succ_cons, List.drop_zero]
      repeat (first | (refine tree_det (by rfl) _ (by rfl) (fun W hW => by go_simp; (try simp (disch := omega) only [IntWalk.i64_in, Int.tdiv_eq_ediv_of_nonneg]); try rfl) ?_; simp only [Act.put, List.setIfInBounds_toArray, List.set_cons_succ, List.set_cons_zero]) | (refine tree_skip (by rfl) (by rfl) ?_; simp only [Act.put, List.setIfInBounds_toArray, List.set_cons_succ, List.set_cons_zero]))
      intro W3 hE hF
      have HE := Lib.hid (show Ext [] W2 W3 from hE)
      clear hE hF
      go_wp2_with fail
      go_returns
      exact ⟨by rw [HMQ.out]; simp, bgo (bgo (bgo (bgoAlloc (bgoAlloc (Below.refl _ _) _) _) HB1.out) HB2.out) HE.out.below⟩

theorem Heat_at (h : HeapD) (t : Int × List Int) (hO : HeatOk h t) (oa ob oc : Option Addr) (na ca nb cb nc cc : Nat) (uv rv' : Value) (turns : List Int) (n : Nat) (w : World) (hn : n < t.2.length) (hn12 : n < 12) (hu : IntsAt w uv t.2) (hr : IntsAt w rv' turns) :
    Calls Tryz.prog 47 #[hv h (.slice oa na ca) (.slice ob nb cb) (.slice oc nc cc), .agg #[iv t.1, uv], rv', iv (n : Int)] w (PV (iv (heatAt h.size h.cool turns t.1 t.2 (n + 1))) w) := by
  have := Heat_any h (.slice oa na ca) (.slice ob nb cb) (.slice oc nc cc) t hO uv rv' turns (n + 1) w hn hn12 hu hr ⟨_, _, _, rfl⟩ ⟨_, _, _, rfl⟩ ⟨_, _, _, rfl⟩
  rwa [show (((n + 1 : Nat) : Int) - 1) = (n : Int) from by omega] at this

/-- A reading is right, by the reference. -/
def rightB (h : HeapD) (t : Int × List Int) (x : Rdg) : Bool := inB (heatAt h.size h.cool h.turns t.1 t.2 (x.1.toNat + 1)) (x.2.1 - x.2.2) (x.2.1 + x.2.2)

set_option maxHeartbeats 1000000 in
theorem Right_any (h : HeapD) (oa oc : Option Addr) (na ca nc cc : Nat) (tv : Value) (t : Int × List Int) (hO : HeatOk h t) (uv : Value) (x : Rdg) (w : World) (hu : IntsAt w uv t.2) (ht : IntsAt w tv h.turns)
    (h0 : 0 ≤ x.1) (h1 : x.1 < t.2.length) (h2 : x.1 < 12) (hs0 : 0 ≤ x.2.1) (hs1 : x.2.1 ≤ 1000) (he0 : 0 ≤ x.2.2) (he1 : x.2.2 ≤ 50) :
    Calls Tryz.prog 73 #[hv h (.slice oa na ca) tv (.slice oc nc cc), .agg #[iv t.1, uv], xv x] w (PV (.bool (rightB h t x)) w) := by
  obtain ⟨o1, c1, rfl⟩ := hu.open
  obtain ⟨ob, cb, rfl⟩ := ht.open
  obtain ⟨xh, xs, xe⟩ := x
  simp only at h0 h1 h2 hs0 hs1 he0 he1
  obtain ⟨n, rfl⟩ := Int.eq_ofNat_of_zero_le h0
  have HQ := Lib.hid (show rightB h t ((n : Int), xs, xe) = inB (heatAt h.size h.cool h.turns t.1 t.2 (n + 1)) (xs - xe) (xs + xe) from by simp [rightB])
  have HU := Lib.hid hu
  have HT := Lib.hid ht
  have HO := Lib.hid hO
  have HN := Lib.hid (show n < t.2.length ∧ n < 12 from ⟨by omega, by omega⟩)
  clear hu ht hO
  obtain ⟨m, hm⟩ : ∃ m, heatAt h.size h.cool h.turns t.1 t.2 (n + 1) = m := ⟨_, rfl⟩
  rw [hm] at HQ
  have HM := Lib.hid hm
  clear hm
  go_enter Tryz.func73, Tryz.ntmps73
  go_wp2_with fail
  refine gworld fun W1 hW1 => ?_
  have HB1 := Lib.hid (show Below w.heap.size w W1 from by rw [hW1]; exact (by repeat (first | exact Below.refl _ _ | assumption | refine bgo ?_ (by assumption) | refine bgoAlloc ?_ _ | refine bgoDrew ?_ | refine bgoSet ?_ (by simp; omega) _)))
  obtain ⟨hx1c, _, hx1s⟩ := cells_of_block (show W1.heap[w.heap.size]? = some (.cells #[iv h.last, iv h.size, iv h.cool, iv h.die, iv h.burn, iv h.start.1, iv h.start.2, .slice oa na ca, .slice ob h.turns.length cb, .slice oc nc cc] 28 (0, 0)) from by rw [hW1]; exact (Below.heap_alloc _ _ _ (by first | omega | (simp; done) | (simp; omega))).trans ((Below.heap_alloc _ _ _ (by first | omega | (simp; done) | (simp; omega))).trans (heap_new0 _ _)))
  obtain ⟨hx2c, _, hx2s⟩ := cells_of_block (show W1.heap[w.heap.size + 1]? = some (.cells #[iv t.1, .slice o1 t.2.length c1] 55 (0, 0)) from by rw [hW1]; exact (Below.heap_alloc _ _ _ (by first | omega | (simp; done) | (simp; omega))).trans (heap_new1 _ _ _))
  obtain ⟨hx3c, _, hx3s⟩ := cells_of_block (show W1.heap[w.heap.size + 2]? = some (.cells #[iv (n : Int), iv xs, iv xe] 60 (0, 0)) from by rw [hW1]; exact heap_new2 _ _ _ _)
  clear hW1
  refine wp_region_rg 18 [] none [(6, Spec.val (iv m)), (17, Spec.val (.bool (inB m (xs - xe) (xs + xe))))] (by kernel_rfl) (by kernel_rfl) ?_
  simp only [List.take_succ_cons, List.take_zero, List.drop_succ_cons, List.drop_zero]
  repeat (first | (refine tree_det (by rfl) _ (by rfl) (fun W hW => by go_simp; (try simp (disch := omega) only [IntWalk.i64_in]); try rfl) ?_; simp only [Act.put, List.setIfInBounds_toArray, List.set_cons_succ, List.set_cons_zero]) | (refine tree_skip (by rfl) (by rfl) ?_; simp only [Act.put, List.setIfInBounds_toArray, List.set_cons_succ, List.set_cons_zero]))
  refine tree_val _ (by rfl) (by rfl) 47 _ (fun W hW => by go_simp; try rfl) (fun W hE hF => by exact by have := Heat_at h t HO.out oa ob oc na ca h.turns.length cb nc cc (.slice o1 t.2.length c1) (.slice ob h.turns.length cb) h.turns n W HN.out.1 HN.out.2 ((HU.out.below HB1.out (Nat.le_refl _)).below (Ext.below (show Ext [] W1 W from hE)) (Nat.le_refl _)) ((HT.out.below HB1.out (Nat.le_refl _)).below (Ext.below (show Ext [] W1 W from hE)) (Nat.le_refl _)); rw [HM.out] at this; exact this) ?_
  simp only [Act.put, List.setIfInBounds_toArray, List.set_cons_succ, List.set_cons_zero]
  repeat (first | (refine tree_det (by rfl) _ (by rfl) (fun W hW => by go_simp; (try simp (disch := omega) only [IntWalk.i64_in]); try rfl) ?_; simp only [Act.put, List.setIfInBounds_toArray, List.set_cons_succ, List.set_cons_zero]) | (refine tree_skip (by rfl) (by rfl) ?_; simp only [Act.put, List.setIfInBounds_toArray, List.set_cons_succ, List.set_cons_zero]))
  refine tree_val _ (by rfl) (by rfl) 22 _ (fun W hW => by go_simp; try rfl) (fun W hE hF => by exact In_any m (xs - xe) (xs + xe) W) ?_
  simp only [Act.put, List.setIfInBounds_toArray, List.set_cons_succ, List.set_cons_zero]
  repeat (first | (refine tree_det (by rfl) _ (by rfl) (fun W hW => by go_simp; (try simp (disch := omega) only [IntWalk.i64_in]); try rfl) ?_; simp only [Act.put, List.setIfInBounds_toArray, List.set_cons_succ, List.set_cons_zero]) | (refine tree_skip (by rfl) (by rfl) ?_; simp only [Act.put, List.setIfInBounds_toArray, List.set_cons_succ, List.set_cons_zero]))
  intro W3 hE hF
  have HE := Lib.hid (show Ext [] W1 W3 from hE)
  clear hE hF
  go_wp2_with fail
  go_returns
  exact ⟨by rw [HQ.out]; simp, bgo HB1.out HE.out.below⟩

end Go.Proofs.YtoibfafmnaooaaaGreat

namespace Go.Proofs.YtoibfafmnaooaaaGreat
open Go.RowKit Go.RG Go.SL Go.Shelf Cou
set_option maxHeartbeats 400000
set_option maxRecDepth 10000

theorem lawFault_any (h : HeapD) (wv tv xv' : Value) (w : World) (hw : PairsAt w wv h.wet) (ht : IntsAt w tv h.turns) (hx : TriplesAt w xv' h.readings) :
    Calls Tryz.prog 41 #[hv h wv tv xv'] w (PV (iv (fault h)) w) := by
  obtain ⟨ow, cw, rfl⟩ := hw.open
  obtain ⟨ot, ct, rfl⟩ := ht.open
  obtain ⟨ox, cx, rfl⟩ := hx.open
  have HW := Lib.hid hw
  have HT := Lib.hid ht
  have HX := Lib.hid hx
  clear hw ht hx
  obtain ⟨f, hf⟩ : ∃ f, fault h = f := ⟨_, rfl⟩
  rw [hf]
  have HF := Lib.hid hf
  clear hf
  go_enter Tryz.func41, Tryz.ntmps41
  go_wp2_with fail
  refine (Fault_any h _ _ _ _ (HW.out.alloc _) (HT.out.alloc _) (HX.out.alloc _)).mono ?_
  rw [HF.out]
  rintro e W1 ⟨rfl, hb⟩
  have HB := Lib.hid hb
  clear hb
  go_wp2_with fail
  go_returns
  exact ⟨by simp, bgo (bgoAlloc (Below.refl _ _) _) HB.out⟩

def listedB (h : HeapD) (t : Int × List Int) : Bool := decide (t.2.length = h.wet.length) && (inB t.1 h.start.1 h.start.2 && (List.range h.wet.length).all (listedAt h t))
theorem listedB_eq {h : HeapD} (hw : (h.wet.length : Int) = h.last + 1) (t : Int × List Int) : listedB h t = listedT h t := by
  unfold listedB listedT
  congr 1
  rw [Bool.eq_iff_iff]
  simp [bne]
  omega

theorem TruthAt.box {W : World} {b : Nat} {t : Int × List Int} {uv : Value} {ty : TypeId} (h : W.heap[b]? = some (.cells #[iv t.1, uv] ty (0, 0))) : W.cell? ⟨b, 0, none⟩ = some (iv t.1) := (cells_of_block h).1 0

theorem getD_map_range {f : Nat → Int} {n i : Nat} (h : i < n) : ((List.range n).map f).getD i 0 = f i := by simp [List.getD, h]

theorem right_eq {h : HeapD} (hS : Sound h) {t : Int × List Int} (hl : listedT h t = true) {x : Rdg} (hx : x ∈ h.readings) : rightB h t x = rightR x (heats h t h.turns) := by
  obtain ⟨h1, h2, _⟩ := listed_of hS hl
  have hr := hS.rdg x hx
  have hw := hS.wetLen
  have : (heats h t h.turns).getD x.1.toNat 0 = heatAt h.size h.cool h.turns t.1 t.2 (x.1.toNat + 1) := by
    unfold heats heatsTo
    rw [getD_map_range (by have := hS.last9; omega), if_pos (by omega)]
  unfold rightB rightR
  rw [this, Bool.eq_iff_iff]
  simp only [inB, Bool.and_eq_true, decide_eq_true_eq]
  omega

end Go.Proofs.YtoibfafmnaooaaaGreat

namespace Go.Proofs.YtoibfafmnaooaaaGreat
open Go.RowKit Go.RG Go.SL Go.Shelf Cou
set_option maxHeartbeats 400000
set_option maxRecDepth 10000

/-- It returns a truth that reads so; nothing that was there has turned. -/
def PTruth (t : Int × List Int) (w : World) (e : Ending) (w' : World) : Prop := ∃ v, e = .returned (.agg #[iv t.1, v]) ∧ IntsAt w' v t.2 ∧ Below w.heap.size w w'

end Go.Proofs.YtoibfafmnaooaaaGreat
