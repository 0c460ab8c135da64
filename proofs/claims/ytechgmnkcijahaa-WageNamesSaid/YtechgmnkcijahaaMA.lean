/-
  The reference of chapter 4 in plain Lean, first part: how many truths there are, the truth with a number. No program in sight.
  The reference of chapter 4 in plain Lean, second part: lists by bits, some of the readings. No program in sight.
  The plain laws of chapter 4: first wrong reading, smallest set. No program in sight.
-/
import Derived.Test.YtechgmnkcijahaaMath
namespace Cou

def manyStep (m : Int) (r : Rng) : Int := min 3000 (m * sizeR r)
def manyTo (h : HeapD) (k : Nat) : Int := (h.wet.take k).foldl manyStep (sizeR h.start)
def manyL (h : HeapD) : Int := manyTo h h.wet.length

theorem manyTo_succ (h : HeapD) (k : Nat) (hk : k < h.wet.length) : manyTo h (k + 1) = manyStep (manyTo h k) h.wet[k] := by
  unfold manyTo
  rw [List.take_succ_eq_append_getElem hk, List.foldl_append]
  rfl

theorem many_fold (l : List Rng) (h : ∀ r ∈ l, 1 ≤ sizeR r) : ∀ m, 1 ≤ m → m ≤ 3000 → l.foldl manyStep m = min 3000 (m * prod l) := by
  induction l with
  | nil => intro m h1 h2; simp [prod]; omega
  | cons r l ih =>
    intro m h1 h2
    have hr := h r (by simp)
    have hp := prod_pos l (fun x hx => h x (by simp [hx]))
    rw [List.foldl_cons]
    have hm : 1 ≤ m * sizeR r := by have := Int.mul_le_mul h1 hr (by omega) (by omega); omega
    rw [ih (fun x hx => h x (by simp [hx])) _ (by unfold manyStep; omega) (by unfold manyStep; omega)]
    show min 3000 (manyStep m r * prod l) = min 3000 (m * (sizeR r * prod l))
    rw [← Int.mul_assoc]
    unfold manyStep
    by_cases hc : m * sizeR r ≤ 3000
    · rw [Int.min_eq_right hc]
    · have h3 : 3000 ≤ m * sizeR r * prod l := by have := Int.mul_le_mul (show (3000 : Int) ≤ m * sizeR r by omega) hp (by omega) (by omega); omega
      have h4 : 3000 ≤ 3000 * prod l := by omega
      rw [Int.min_eq_left (show 3000 ≤ m * sizeR r by omega)]
      omega

/-- The ranges alone are valid. -/
structure RangesOk (h : HeapD) : Prop where
  start : 0 ≤ h.start.1 ∧ h.start.1 ≤ h.start.2 ∧ h.start.2 ≤ 500
  wet : ∀ r ∈ h.wet, 0 ≤ r.1 ∧ r.1 ≤ r.2 ∧ r.2 ≤ 20

theorem Sound.ranges {h : HeapD} (hS : Sound h) : RangesOk h := ⟨⟨hS.start0, hS.start1, hS.start2⟩, hS.wet⟩
theorem RangesOk.sz {h : HeapD} (hR : RangesOk h) : ∀ r ∈ h.wet, 1 ≤ sizeR r := fun r hr => by have := hR.wet r hr; unfold sizeR; omega
theorem RangesOk.sz0 {h : HeapD} (hR : RangesOk h) : 1 ≤ sizeR h.start ∧ sizeR h.start ≤ 501 := by have := hR.start; unfold sizeR; omega

theorem manyTo_bd {h : HeapD} (hR : RangesOk h) (k : Nat) : 1 ≤ manyTo h k ∧ manyTo h k ≤ 3000 := by
  unfold manyTo
  have ht : ∀ r ∈ h.wet.take k, 1 ≤ sizeR r := fun r hr => hR.sz r (List.mem_of_mem_take hr)
  have h0 := hR.sz0
  rw [many_fold _ ht _ h0.1 (by omega)]
  have := prod_pos _ ht
  have := Int.mul_le_mul h0.1 this (by omega) (by omega)
  omega

theorem manyL_eq {h : HeapD} (hR : RangesOk h) : manyL h = min 3000 (prod (h.start :: h.wet)) := by
  unfold manyL manyTo
  have h0 := hR.sz0
  rw [List.take_length, many_fold _ hR.sz _ h0.1 (by omega)]
  rfl
theorem manyL_gt {h : HeapD} (hR : RangesOk h) : 2000 < manyL h ↔ 2000 < prod (h.start :: h.wet) := by rw [manyL_eq hR]; omega
theorem manyL_sound {h : HeapD} (hS : Sound h) : manyL h = prod (h.start :: h.wet) ∧ 1 ≤ manyL h ∧ manyL h ≤ 2000 := by
  have := manyL_eq hS.ranges
  have := hS.many
  have := manyTo_bd hS.ranges h.wet.length
  unfold manyL at *
  omega

/-! ### The truth with a number -/
def nthW : List Rng → Int → List Int
  | [], _ => []
  | r :: rs, n => (r.1 + n % sizeR r) :: nthW rs (n / sizeR r)
def restN (l : List Rng) (n : Int) : Int := l.foldl (fun n r => n / sizeR r) n
def nthT (h : HeapD) (n : Int) : Int × List Int := (h.start.1 + n % sizeR h.start, nthW h.wet (n / sizeR h.start))

theorem nthW_len : ∀ (l : List Rng) (n : Int), (nthW l n).length = l.length := by
  intro l
  induction l with
  | nil => intro n; rfl
  | cons r l ih => intro n; simp [nthW, ih]
theorem nthW_snoc (r : Rng) : ∀ (l : List Rng) (n : Int), nthW (l ++ [r]) n = nthW l n ++ [r.1 + restN l n % sizeR r] := by
  intro l
  induction l with
  | nil => intro n; rfl
  | cons x l ih => intro n; simp only [List.cons_append, nthW, ih]; rfl
theorem restN_snoc (r : Rng) (l : List Rng) (n : Int) : restN (l ++ [r]) n = restN l n / sizeR r := by simp [restN]

theorem restN_bd : ∀ (l : List Rng) (n : Int), (∀ r ∈ l, 1 ≤ sizeR r) → 0 ≤ n → 0 ≤ restN l n ∧ restN l n ≤ n := by
  intro l
  induction l with
  | nil => intro n _ h; exact ⟨h, Int.le_refl _⟩
  | cons r l ih =>
    intro n hs h
    have hr := hs r (by simp)
    have h1 : 0 ≤ n / sizeR r := Int.ediv_nonneg h (by omega)
    have h2 : n / sizeR r ≤ n := Int.ediv_le_self _ h
    have := ih (n / sizeR r) (fun x hx => hs x (by simp [hx])) h1
    show 0 ≤ restN l (n / sizeR r) ∧ restN l (n / sizeR r) ≤ n
    omega

theorem mem_rangeL {r : Rng} {x : Int} : x ∈ rangeL r ↔ r.1 ≤ x ∧ x ≤ r.2 := by
  unfold rangeL sizeR
  rw [List.mem_map]
  constructor
  · rintro ⟨k, hk, rfl⟩
    have := List.mem_range.1 hk
    omega
  · rintro ⟨h1, h2⟩
    exact ⟨(x - r.1).toNat, List.mem_range.2 (by omega), by omega⟩

theorem nthW_mem : ∀ (l : List Rng) (n : Int), (∀ r ∈ l, 1 ≤ sizeR r) → nthW l n ∈ prodL l := by
  intro l
  induction l with
  | nil => intro n _; simp [nthW, prodL]
  | cons r l ih =>
    intro n hs
    have hr := hs r (by simp)
    simp only [nthW, prodL, List.mem_flatMap, List.mem_map]
    have h1 := Int.emod_nonneg n (show sizeR r ≠ 0 by omega)
    have h2 := Int.emod_lt_of_pos n (show 0 < sizeR r by omega)
    refine ⟨r.1 + n % sizeR r, mem_rangeL.2 ?_, _, ih _ (fun x hx => hs x (by simp [hx])), rfl⟩
    generalize n % sizeR r = m at *
    unfold sizeR at h2
    omega

theorem nthW_all : ∀ (l : List Rng), (∀ r ∈ l, 1 ≤ sizeR r) → ∀ x ∈ prodL l, ∃ n, 0 ≤ n ∧ n < prod l ∧ nthW l n = x := by
  intro l
  induction l with
  | nil => intro _ x hx; exact ⟨0, by omega, by simp [prod], by simpa [prodL, nthW, eq_comm] using hx⟩
  | cons r l ih =>
    intro hs x hx
    have hr := hs r (by simp)
    simp only [prodL, List.mem_flatMap, List.mem_map] at hx
    obtain ⟨y, hy, s, hsm, rfl⟩ := hx
    obtain ⟨m, hm0, hm1, rfl⟩ := ih (fun x hx => hs x (by simp [hx])) s hsm
    have hy := mem_rangeL.1 hy
    have hsz : y - r.1 < sizeR r := by unfold sizeR; omega
    have hmul : 0 ≤ sizeR r * m := Int.mul_nonneg (by omega) hm0
    refine ⟨(y - r.1) + sizeR r * m, by omega, ?_, ?_⟩
    · show _ < sizeR r * prod l
      have : sizeR r * (m + 1) ≤ sizeR r * prod l := Int.mul_le_mul_of_nonneg_left (by omega) (by omega)
      rw [Int.mul_add, Int.mul_one] at this
      omega
    · have e1 : ((y - r.1) + sizeR r * m) % sizeR r = y - r.1 := by rw [Int.add_mul_emod_self_left]; exact Int.emod_eq_of_lt (by omega) hsz
      have e2 : ((y - r.1) + sizeR r * m) / sizeR r = m := by rw [Int.add_mul_ediv_left _ _ (by omega), Int.ediv_eq_zero_of_lt (by omega) hsz]; omega
      simp only [nthW, e1, e2]
      rw [show r.1 + (y - r.1) = y from by omega]

theorem allSz {h : HeapD} (hS : Sound h) : ∀ r ∈ h.start :: h.wet, 1 ≤ sizeR r := fun r hr => by
  rcases List.mem_cons.1 hr with rfl | hr
  · exact hS.ranges.sz0.1
  · exact hS.ranges.sz r hr

/-- The truths without readings, by their numbers. -/
theorem nthT_mem {h : HeapD} (hS : Sound h) (n : Int) : ∃ x ∈ allL h, toT x = nthT h n := ⟨_, nthW_mem (h.start :: h.wet) n (allSz hS), rfl⟩
theorem nthT_all {h : HeapD} (hS : Sound h) {x : List Int} (hx : x ∈ allL h) : ∃ n, 0 ≤ n ∧ n < manyL h ∧ nthT h n = toT x := by
  obtain ⟨n, h0, h1, rfl⟩ := nthW_all _ (allSz hS) x hx
  exact ⟨n, h0, by rw [(manyL_sound hS).1]; exact h1, rfl⟩

theorem nthT_listed {h : HeapD} (hS : Sound h) (n : Int) : listedT h (nthT h n) = true := by
  obtain ⟨x, hx, he⟩ := nthT_mem hS n
  obtain ⟨hlen, hb⟩ := mem_prodL _ x hx
  rw [← he]
  obtain ⟨s, rest, rfl, hl, _⟩ := list_split hS hx
  have h0 := hb 0 (by simp)
  simp only [List.getD_cons_zero] at h0
  simp only [listedT, toT, List.headD_cons, List.tail_cons, Bool.and_eq_true, List.all_eq_true]
  refine ⟨?_, ?_, fun i hi => ?_⟩
  · have := hS.wetLen
    simp only [bne, Bool.not_not, beq_iff_eq]
    omega
  · simp [inB, h0]
  · have := hb (i + 1) (by simpa using hi)
    simp only [List.getD_cons_succ] at this
    simp [listedAt, inB]
    exact this

end Cou

namespace Cou

def bitsTo (n p : Nat) : List Int := ((List.range p).filter n.testBit).map fun (i : Nat) => (i : Int)
def bitsL (n : Nat) : List Int := bitsTo n n

theorem bitsTo_zero (n : Nat) : bitsTo n 0 = [] := rfl
theorem bitsTo_yes {n p : Nat} (h : n.testBit p = true) : bitsTo n (p + 1) = bitsTo n p ++ [(p : Int)] := by
  simp [bitsTo, List.range_succ, List.filter_append, h]
theorem bitsTo_no {n p : Nat} (h : n.testBit p = false) : bitsTo n (p + 1) = bitsTo n p := by
  simp [bitsTo, List.range_succ, List.filter_append, h]
theorem bitsTo_len (n p : Nat) : (bitsTo n p).length ≤ p := by
  unfold bitsTo
  rw [List.length_map]
  have := List.length_filter_le n.testBit (List.range p)
  simpa using this

theorem bitsTo_big {n p : Nat} (h : n < 2 ^ p) : ∀ d, bitsTo n (p + d) = bitsTo n p := by
  intro d
  induction d with
  | zero => rfl
  | succ d ih =>
    have : n.testBit (p + d) = false := Nat.testBit_lt_two_pow (Nat.lt_of_lt_of_le h (Nat.pow_le_pow_right (by omega) (by omega)))
    rw [← Nat.add_assoc, bitsTo_no this, ih]

theorem bitsL_eq {n p : Nat} (h : n < 2 ^ p) : bitsL n = bitsTo n p := by
  unfold bitsL
  have hn : n < 2 ^ n := Nat.lt_two_pow_self
  rcases Nat.le_total n p with hp | hp
  · have := bitsTo_big hn (p - n)
    rw [Nat.add_sub_cancel' hp] at this
    exact this.symm
  · have := bitsTo_big h (n - p)
    rw [Nat.add_sub_cancel' hp] at this
    exact this

theorem mem_bitsTo {n p : Nat} {x : Int} : x ∈ bitsTo n p ↔ ∃ i : Nat, i < p ∧ n.testBit i = true ∧ x = i := by
  unfold bitsTo
  simp only [List.mem_map, List.mem_filter, List.mem_range]
  exact ⟨fun ⟨i, ⟨h1, h2⟩, h3⟩ => ⟨i, h1, h2, h3.symm⟩, fun ⟨i, h1, h2, h3⟩ => ⟨i, ⟨h1, h2⟩, h3.symm⟩⟩

theorem inc_pairwise {below : Nat} : ∀ (l : List Int) (f : Nat), Inc below f l ↔ l.Pairwise (· < ·) ∧ ∀ x ∈ l, (f : Int) ≤ x ∧ x < below := by
  intro l
  induction l with
  | nil => intro f; simp [Inc]
  | cons x l ih =>
    intro f
    unfold Inc
    rw [List.pairwise_cons]
    constructor
    · rintro ⟨n, rfl, h1, h2, h3⟩
      obtain ⟨h4, h5⟩ := (ih _).1 h3
      refine ⟨⟨fun y hy => by have := h5 y hy; omega, h4⟩, fun y hy => ?_⟩
      rcases List.mem_cons.1 hy with rfl | hy
      · omega
      · have := h5 y hy; omega
    · rintro ⟨⟨h1, h2⟩, h3⟩
      have hx := h3 x (by simp)
      refine ⟨x.toNat, by omega, by omega, by omega, (ih _).2 ⟨h2, fun y hy => ⟨?_, (h3 y (by simp [hy])).2⟩⟩⟩
      have := h1 y hy
      omega

theorem inc_bitsTo (n p : Nat) : Inc p 0 (bitsTo n p) := by
  rw [inc_pairwise]
  refine ⟨?_, fun x hx => ?_⟩
  · unfold bitsTo
    rw [List.pairwise_map]
    exact (List.pairwise_lt_range.filter _).imp fun h => by omega
  · obtain ⟨i, hi, _, rfl⟩ := mem_bitsTo.1 hx
    omega

/-- Two increasing lists with the same numbers are the same. -/
theorem inc_ext : ∀ (l m : List Int), l.Pairwise (· < ·) → m.Pairwise (· < ·) → (∀ x, x ∈ l ↔ x ∈ m) → l = m := by
  intro l
  induction l with
  | nil =>
    intro m _ _ h
    cases m with
    | nil => rfl
    | cons y m => exact absurd ((h y).2 (by simp)) (by simp)
  | cons x l ih =>
    intro m hl hm h
    cases m with
    | nil => exact absurd ((h x).1 (by simp)) (by simp)
    | cons y m =>
      rw [List.pairwise_cons] at hl hm
      have e : x = y := by
        rcases List.mem_cons.1 ((h x).1 (by simp)) with e | e
        · exact e
        · rcases List.mem_cons.1 ((h y).2 (by simp)) with e' | e'
          · exact e'.symm
          · have := hm.1 x e; have := hl.1 y e'; omega
      subst e
      rw [ih m hl.2 hm.2 fun z => ?_]
      constructor
      · intro hz
        rcases List.mem_cons.1 ((h z).1 (by simp [hz])) with e | e
        · have := hl.1 z hz; omega
        · exact e
      · intro hz
        rcases List.mem_cons.1 ((h z).2 (by simp [hz])) with e | e
        · have := hm.1 z hz; omega
        · exact e

def ofBits (l : List Int) : Nat := l.foldr (fun i n => 2 ^ i.toNat ||| n) 0
theorem ofBits_at : ∀ (l : List Int) (j : Nat), (∀ x ∈ l, 0 ≤ x) → (ofBits l).testBit j = l.contains (j : Int) := by
  intro l
  induction l with
  | nil => intro j _; simp [ofBits]
  | cons x l ih =>
    intro j h
    have hx := h x (by simp)
    show (2 ^ x.toNat ||| ofBits l).testBit j = _
    rw [Nat.testBit_or, ih j (fun y hy => h y (by simp [hy])), Nat.testBit_two_pow, List.contains_cons]
    congr 1
    rw [Bool.eq_iff_iff]
    simp
    omega
theorem ofBits_lt {l : List Int} {p : Nat} (h : Inc p 0 l) : ofBits l < 2 ^ p := by
  have hl := ((inc_pairwise _ _).1 h).2
  apply Nat.lt_pow_two_of_testBit
  intro j hj
  rw [ofBits_at l j (fun x hx => by have := hl x hx; omega)]
  cases hc : l.contains (j : Int)
  · rfl
  · have := hl j (by simpa using hc)
    omega
theorem bits_ofBits {l : List Int} {p : Nat} (h : Inc p 0 l) : bitsL (ofBits l) = l := by
  have hl := (inc_pairwise _ _).1 h
  rw [bitsL_eq (ofBits_lt h)]
  refine inc_ext _ _ ((inc_pairwise _ _).1 (inc_bitsTo _ p)).1 hl.1 fun x => ?_
  rw [mem_bitsTo]
  constructor
  · rintro ⟨i, _, h2, rfl⟩
    rw [ofBits_at l i (fun x hx => by have := hl.2 x hx; omega)] at h2
    simpa using h2
  · intro hx
    have hb := hl.2 x hx
    refine ⟨x.toNat, by omega, ?_, by omega⟩
    rw [ofBits_at l _ (fun x hx => by have := hl.2 x hx; omega), show ((x.toNat : Nat) : Int) = x from by omega]
    simpa using hx

/-- Turnings are the increasing lists of hours. -/
theorem turns_inc {last : Int} (h0 : 0 ≤ last) (l : List Int) : isTurns last l = true ↔ Inc (last + 1).toNat 0 l := by
  have : ∀ (l : List Int) (f : Nat), turnsFrom last ((f : Int) - 1) l = true ↔ Inc (last + 1).toNat f l := by
    intro l
    induction l with
    | nil => intro f; simp [turnsFrom, Inc]
    | cons x l ih =>
      intro f
      unfold turnsFrom Inc
      simp only [inB, Bool.and_eq_true, decide_eq_true_eq]
      constructor
      · rintro ⟨⟨h1, h2⟩, h3⟩
        refine ⟨x.toNat, by omega, by omega, by omega, (ih _).1 ?_⟩
        rw [show (((x.toNat + 1 : Nat) : Int) - 1) = x from by omega]
        exact h3
      · rintro ⟨n, rfl, h1, h2, h3⟩
        have := (ih _).2 h3
        rw [show (((n + 1 : Nat) : Int) - 1) = (n : Int) from by omega] at this
        exact ⟨⟨by omega, by omega⟩, this⟩
  exact this l 0

/-! ### Some of the readings -/
def someTo (m : Nat) (l : List Rdg) (k : Nat) : List Rdg := ((List.range k).filter m.testBit).map fun i => l.getD i (0, 0, 0)
def someL (m : Nat) (l : List Rdg) : List Rdg := someTo m l l.length
def someH (h : HeapD) (m : Nat) : HeapD := { h with readings := someL m h.readings }

theorem someTo_yes {m k : Nat} (l : List Rdg) (h : m.testBit k = true) : someTo m l (k + 1) = someTo m l k ++ [l.getD k (0, 0, 0)] := by
  simp [someTo, List.range_succ, List.filter_append, h]
theorem someTo_no {m k : Nat} (l : List Rdg) (h : m.testBit k = false) : someTo m l (k + 1) = someTo m l k := by
  simp [someTo, List.range_succ, List.filter_append, h]
theorem someTo_len (m k : Nat) (l : List Rdg) : (someTo m l k).length ≤ k := by
  unfold someTo
  rw [List.length_map]
  have := List.length_filter_le m.testBit (List.range k)
  simpa using this

theorem mem_someL {m : Nat} {l : List Rdg} {x : Rdg} : x ∈ someL m l ↔ ∃ i, i < l.length ∧ m.testBit i = true ∧ x = l.getD i (0, 0, 0) := by
  unfold someL someTo
  simp only [List.mem_map, List.mem_filter, List.mem_range]
  exact ⟨fun ⟨i, ⟨h1, h2⟩, h3⟩ => ⟨i, h1, h2, h3.symm⟩, fun ⟨i, h1, h2, h3⟩ => ⟨i, ⟨h1, h2⟩, h3.symm⟩⟩

theorem range_take_map (l : List Rdg) (k : Nat) (hk : k ≤ l.length) : (List.range k).map (fun i => l.getD i (0, 0, 0)) = l.take k := by
  apply List.ext_getElem
  · simp; omega
  · intro i h1 h2
    have hi : i < k := by simpa using h1
    have : i < l.length := by omega
    simp [List.getD, this]

theorem some_take (l : List Rdg) (k : Nat) (hk : k ≤ l.length) : someL (2 ^ k - 1) l = l.take k := by
  unfold someL someTo
  have : (List.range l.length).filter (2 ^ k - 1).testBit = List.range k := by
    have e : l.length = k + (l.length - k) := by omega
    rw [e, List.range_add, List.filter_append]
    rw [List.filter_eq_self.2 (fun i hi => by rw [Nat.testBit_two_pow_sub_one]; simpa using hi)]
    rw [List.filter_eq_nil_iff.2 (fun i hi => by rw [Nat.testBit_two_pow_sub_one]; simp at hi ⊢; omega)]
    simp
  rw [this, range_take_map l k hk]

theorem sub_sound {h : HeapD} (hS : Sound h) {R : List Rdg} (hR : ∀ x ∈ R, x ∈ h.readings) (hl : R.length ≤ 5) : Sound { h with readings := R } :=
  ⟨hS.last0, hS.last9, hS.size0, hS.size1, hS.cool0, hS.cool1, hS.die0, hS.burn0, hS.burn1, hS.start0, hS.start1, hS.start2, hS.wetLen, hS.turns, hS.wet, fun x hx => hS.rdg x (hR x hx), hl, hS.many⟩

theorem fault_sound {h : HeapD} (hS : Sound h) : fault h = 0 := by
  unfold fault
  have h1 := hS.last9
  have h2 := hS.rdgs
  have h3 := hS.many
  rw [if_neg (by omega), if_neg, if_neg (by omega)]
  have hv : valid h = true := by
    have hw := hS.wetLen
    have a1 := hS.last0
    have a2 := hS.size0
    have a3 := hS.size1
    have a4 := hS.cool0
    have a5 := hS.cool1
    have a6 := hS.die0
    have a7 := hS.burn0
    have a8 := hS.burn1
    have a9 := hS.start0
    have a10 := hS.start1
    have a11 := hS.start2
    simp only [valid, numbersOk, inB, okR, Bool.and_eq_true, decide_eq_true_eq, List.all_eq_true]
    refine ⟨⟨⟨⟨⟨⟨⟨⟨⟨a1, a2, a3⟩, a4, a5⟩, a6⟩, a7, a8⟩, ⟨a9, a10⟩, a11⟩, hw⟩, hS.turns⟩, fun r hr => ?_⟩, fun x hx => ?_⟩
    · have := hS.wet r hr; omega
    · have := hS.rdg x hx
      simp only [okRdg, inB, Bool.and_eq_true, decide_eq_true_eq]
      omega
  rw [hv]
  simp

theorem some_sound {h : HeapD} (hS : Sound h) (m : Nat) : Sound (someH h m) :=
  sub_sound hS (fun x hx => by
    obtain ⟨i, hi, _, rfl⟩ := mem_someL.1 hx
    rw [show h.readings.getD i (0, 0, 0) = h.readings[i] from by simp [List.getD, hi]]
    exact List.getElem_mem _) (Nat.le_trans (someTo_len _ _ _) hS.rdgs)

end Cou

namespace Cou

theorem okT_all (h : HeapD) (t : Int × List Int) : okT h [] t = h.readings.all (rightR · (heats h t h.turns)) := by
  unfold okT
  rw [Bool.eq_iff_iff, List.all_eq_true, List.all_eq_true]
  constructor
  · intro hh x hx
    obtain ⟨i, hi, rfl⟩ := List.getElem_of_mem hx
    have := hh i (List.mem_range.2 hi)
    simp only [okAt, List.contains_nil, Bool.false_or] at this
    rwa [show h.readings.getD i (0, 0, 0) = h.readings[i] from by simp [List.getD, hi]] at this
  · intro hh i hi
    have hi' := List.mem_range.1 hi
    simp only [okAt, List.contains_nil, Bool.false_or]
    rw [show h.readings.getD i (0, 0, 0) = h.readings[i] from by simp [List.getD, hi']]
    exact hh _ (List.getElem_mem _)

theorem truths_ne {h : HeapD} {out : List Int} : (truthsL h out).isEmpty = false ↔ ∃ x ∈ allL h, okT h out (toT x) = true := by
  unfold truthsL
  constructor
  · intro he
    cases hl : (allL h).filter fun l => okT h out (toT l) with
    | nil => rw [hl] at he; cases he
    | cons y ys =>
      have : y ∈ (allL h).filter fun l => okT h out (toT l) := by rw [hl]; simp
      exact ⟨y, (List.mem_filter.1 this).1, (List.mem_filter.1 this).2⟩
  · rintro ⟨x, hx, hok⟩
    have hm : x ∈ (allL h).filter fun l => okT h out (toT l) := List.mem_filter.2 ⟨hx, hok⟩
    cases hl : (allL h).filter fun l => okT h out (toT l) with
    | nil => rw [hl] at hm; cases hm
    | cons y ys => rfl

/-- To leave readings out is to look at the others alone. -/
theorem can_some {h : HeapD} {m : Nat} {out : List Int} (hm : ∀ i, i < h.readings.length → m.testBit i = !out.contains (i : Int)) : canL h out = !(truthsL (someH h m) []).isEmpty := by
  have key : ∀ t, okT (someH h m) [] t = okT h out t := by
    intro t
    rw [okT_all]
    unfold okT
    rw [Bool.eq_iff_iff, List.all_eq_true, List.all_eq_true]
    constructor
    · intro hh i hi
      have hi' := List.mem_range.1 hi
      simp only [okAt, Bool.or_eq_true]
      cases hc : out.contains (i : Int)
      · right
        exact hh _ (mem_someL.2 ⟨i, hi', by rw [hm i hi', hc]; rfl, rfl⟩)
      · exact .inl rfl
    · intro hh x hx
      obtain ⟨i, hi, hb, rfl⟩ := mem_someL.1 hx
      have := hh i (List.mem_range.2 hi)
      rw [hm i hi] at hb
      simp only [okAt, Bool.or_eq_true] at this
      rcases this with e | e
      · rw [e] at hb; cases hb
      · exact e
  unfold canL
  congr 1
  unfold truthsL
  rw [show allL (someH h m) = allL h from rfl]
  simp only [key, List.isEmpty_map]

theorem someH_take (h : HeapD) (k : Nat) (hk : k ≤ h.readings.length) : someH h (2 ^ k - 1) = withR h k := by
  unfold someH withR
  rw [some_take _ _ hk]

/-! ### The first wrong reading -/
theorem none_truth {h : HeapD} (hS : Sound h) (hr : h.readings.length = 0) : (truthsL h []).isEmpty = false := by
  rw [truths_ne]
  obtain ⟨x, hx⟩ : ∃ x, x ∈ allL h := by
    cases hl : allL h with
    | nil => exact absurd hl (allL_ne hS)
    | cons y ys => exact ⟨y, by simp⟩
  refine ⟨x, hx, ?_⟩
  rw [okT_all, List.eq_nil_of_length_eq_zero hr]
  rfl

theorem withR_truth {h : HeapD} (hS : Sound h) {n : Nat} (hn : ∀ j, j < n → wrongAt h j = false) : (truthsL (withR h n) []).isEmpty = false := by
  cases n with
  | zero => exact none_truth (withR_sound hS 0) (by simp [withR])
  | succ n => exact hn n (by omega)

theorem first_none {h : HeapD} (hS : Sound h) (hf : firstS h = none) : (truthsL h []).isEmpty = false := by
  have h1 : ∀ j, j < h.readings.length → wrongAt h j = false := by
    unfold firstS at hf
    rw [List.find?_eq_none] at hf
    intro j hj
    simpa using hf j (List.mem_range.2 hj)
  have := withR_truth hS h1
  rwa [show withR h h.readings.length = h from by unfold withR; rw [List.take_length]] at this

theorem first_some {h : HeapD} (hS : Sound h) {n : Nat} (hf : firstS h = some n) : n < h.readings.length ∧ (truthsL (withR h n) []).isEmpty = false ∧ (truthsL (withR h (n + 1)) []).isEmpty = true := by
  unfold firstS at hf
  rw [List.find?_eq_some_iff_getElem] at hf
  obtain ⟨h1, i, hi, h2, h3⟩ := hf
  simp only [List.getElem_range] at h2
  subst h2
  refine ⟨by simpa using hi, withR_truth hS fun j hj => ?_, h1⟩
  have := h3 j hj
  simpa using this

/-! ### The smallest set -/
theorem leave_some {h : HeapD} (hS : Sound h) : ∃ c, leaveL h = c ∧ canL h c = true ∧ Inc h.readings.length 0 c ∧ ∀ x, Inc h.readings.length 0 x → canL h x = true → shorter x c = false := by
  obtain ⟨c, hc⟩ := leaveS_some hS
  obtain ⟨h1, h2, h3⟩ := shortL_some hc
  refine ⟨c, ?_, h1, h2, h3⟩
  unfold leaveL
  rw [if_neg (by rw [fault_sound hS]; simp), hc]
  rfl

/-- Nothing has to be left out if and only if there is a truth. -/
theorem leave_nil {h : HeapD} (hS : Sound h) : leaveL h = [] ↔ (truthsL h []).isEmpty = false := by
  obtain ⟨c, hc, h1, h2, h3⟩ := leave_some hS
  rw [hc]
  constructor
  · rintro rfl
    simpa [canL] using h1
  · intro hn
    have h4 := h3 [] trivial (by simp [canL, hn])
    cases c with
    | nil => rfl
    | cons x c => simp [shorter] at h4

end Cou
