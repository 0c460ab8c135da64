/-
  The reference of chapter 4 in plain Lean, second part: lists by bits, some of the readings. No program in sight.
-/
import Derived.Test.YtoibfafmnaooaaaM8
namespace Cou

def bitsTo (n p : Nat) : List Int := ((List.range p).filter n.testBit).map fun (i : Nat) => (i : Int)
def bitsL (n : Nat) : List Int := bitsTo n n

theorem bitsTo_zero (n : Nat) : bitsTo n 0 = [] := rfl
theorem bitsTo_yes {n p : Nat} (h : n.testBit p = true) : bitsTo n (p + 1) = bitsTo n p ++ [(p : Int)] := by
  simp [bitsTo, List.range_succ, List.filter_append, h]
theorem bitsTo_no {n p : Nat} (h : n.testBit p = false) : bitsTo n (p + 1) = bitsTo n p := by
  simp [bitsTo, List.range_succ, List.filter_append, h]
theorem bitsTo_len (n p : Nat) : (bitsTo n p).length ≤ p := by
  unfold bitsTo
  rw [List.length_map]
  have := List.length_filter_le n.testBit (List.range p)
  simpa using this

theorem bitsTo_big {n p : Nat} (h : n < 2 ^ p) : ∀ d, bitsTo n (p + d) = bitsTo n p := by
  intro d
  induction d with
  | zero => rfl
  | succ d ih =>
    have : n.testBit (p + d) = false := Nat.testBit_lt_two_pow (Nat.lt_of_lt_of_le h (Nat.pow_le_pow_right (by omega) (by omega)))
    rw [← Nat.add_assoc, bitsTo_no this, ih]

theorem bitsL_eq {n p : Nat} (h : n < 2 ^ p) : bitsL n = bitsTo n p := by
  unfold bitsL
  have hn : n < 2 ^ n := Nat.lt_two_pow_self
  rcases Nat.le_total n p with hp | hp
  · have := bitsTo_big hn (p - n)
    rw [Nat.add_sub_cancel' hp] at this
    exact this.symm
  · have := bitsTo_big h (n - p)
    rw [Nat.add_sub_cancel' hp] at this
    exact this

theorem mem_bitsTo {n p : Nat} {x : Int} : x ∈ bitsTo n p ↔ ∃ i : Nat, i < p ∧ n.testBit i = true ∧ x = i := by
  unfold bitsTo
  simp only [List.mem_map, List.mem_filter, List.mem_range]
  exact ⟨fun ⟨i, ⟨h1, h2⟩, h3⟩ => ⟨i, h1, h2, h3.symm⟩, fun ⟨i, h1, h2, h3⟩ => ⟨i, ⟨h1, h2⟩, h3.symm⟩⟩

theorem inc_pairwise {below : Nat} : ∀ (l : List Int) (f : Nat), Inc below f l ↔ l.Pairwise (· < ·) ∧ ∀ x ∈ l, (f : Int) ≤ x ∧ x < below := by
  intro l
  induction l with
  | nil => intro f; simp [Inc]
  | cons x l ih =>
    intro f
    unfold Inc
    rw [List.pairwise_cons]
    constructor
    · rintro ⟨n, rfl, h1, h2, h3⟩
      obtain ⟨h4, h5⟩ := (ih _).1 h3
      refine ⟨⟨fun y hy => by have := h5 y hy; omega, h4⟩, fun y hy => ?_⟩
      rcases List.mem_cons.1 hy with rfl | hy
      · omega
      · have := h5 y hy; omega
    · rintro ⟨⟨h1, h2⟩, h3⟩
      have hx := h3 x (by simp)
      refine ⟨x.toNat, by omega, by omega, by omega, (ih _).2 ⟨h2, fun y hy => ⟨?_, (h3 y (by simp [hy])).2⟩⟩⟩
      have := h1 y hy
      omega

theorem inc_bitsTo (n p : Nat) : Inc p 0 (bitsTo n p) := by
  rw [inc_pairwise]
  refine ⟨?_, fun x hx => ?_⟩
  · unfold bitsTo
    rw [List.pairwise_map]
    exact (List.pairwise_lt_range.filter _).imp fun h => by omega
  · obtain ⟨i, hi, _, rfl⟩ := mem_bitsTo.1 hx
    omega

/-- Two increasing lists with the same numbers are the same. -/
theorem inc_ext : ∀ (l m : List Int), l.Pairwise (· < ·) → m.Pairwise (· < ·) → (∀ x, x ∈ l ↔ x ∈ m) → l = m := by
  intro l
  induction l with
  | nil =>
    intro m _ _ h
    cases m with
    | nil => rfl
    | cons y m => exact absurd ((h y).2 (by simp)) (by simp)
  | cons x l ih =>
    intro m hl hm h
    cases m with
    | nil => exact absurd ((h x).1 (by simp)) (by simp)
    | cons y m =>
      rw [List.pairwise_cons] at hl hm
      have e : x = y := by
        rcases List.mem_cons.1 ((h x).1 (by simp)) with e | e
        · exact e
        · rcases List.mem_cons.1 ((h y).2 (by simp)) with e' | e'
          · exact e'.symm
          · have := hm.1 x e; have := hl.1 y e'; omega
      subst e
      rw [ih m hl.2 hm.2 fun z => ?_]
      constructor
      · intro hz
        rcases List.mem_cons.1 ((h z).1 (by simp [hz])) with e | e
        · have := hl.1 z hz; omega
        · exact e
      · intro hz
        rcases List.mem_cons.1 ((h z).2 (by simp [hz])) with e | e
        · have := hm.1 z hz; omega
        · exact e

def ofBits (l : List Int) : Nat := l.foldr (fun i n => 2 ^ i.toNat ||| n) 0
theorem ofBits_at : ∀ (l : List Int) (j : Nat), (∀ x ∈ l, 0 ≤ x) → (ofBits l).testBit j = l.contains (j : Int) := by
  intro l
  induction l with
  | nil => intro j _; simp [ofBits]
  | cons x l ih =>
    intro j h
    have hx := h x (by simp)
    show (2 ^ x.toNat ||| ofBits l).testBit j = _
    rw [Nat.testBit_or, ih j (fun y hy => h y (by simp [hy])), Nat.testBit_two_pow, List.contains_cons]
    congr 1
    rw [Bool.eq_iff_iff]
    simp
    omega
theorem ofBits_lt {l : List Int} {p : Nat} (h : Inc p 0 l) : ofBits l < 2 ^ p := by
  have hl := ((inc_pairwise _ _).1 h).2
  apply Nat.lt_pow_two_of_testBit
  intro j hj
  rw [ofBits_at l j (fun x hx => by have := hl x hx; omega)]
  cases hc : l.contains (j : Int)
  · rfl
  · have := hl j (by simpa using hc)
    omega
theorem bits_ofBits {l : List Int} {p : Nat} (h : Inc p 0 l) : bitsL (ofBits l) = l := by
  have hl := (inc_pairwise _ _).1 h
  rw [bitsL_eq (ofBits_lt h)]
  refine inc_ext _ _ ((inc_pairwise _ _).1 (inc_bitsTo _ p)).1 hl.1 fun x => ?_
  rw [mem_bitsTo]
  constructor
  · rintro ⟨i, _, h2, rfl⟩
    rw [ofBits_at l i (fun x hx => by have := hl.2 x hx; omega)] at h2
    simpa using h2
  · intro hx
    have hb := hl.2 x hx
    refine ⟨x.toNat, by omega, ?_, by omega⟩
    rw [ofBits_at l _ (fun x hx => by have := hl.2 x hx; omega), show ((x.toNat : Nat) : Int) = x from by omega]
    simpa using hx

/-- Turnings are the increasing lists of hours. -/
theorem turns_inc {last : Int} (h0 : 0 ≤ last) (l : List Int) : isTurns last l = true ↔ Inc (last + 1).toNat 0 l := by
  have : ∀ (l : List Int) (f : Nat), turnsFrom last ((f : Int) - 1) l = true ↔ Inc (last + 1).toNat f l := by
    intro l
    induction l with
    | nil => intro f; simp [turnsFrom, Inc]
    | cons x l ih =>
      intro f
      unfold turnsFrom Inc
      simp only [inB, Bool.and_eq_true, decide_eq_true_eq]
      constructor
      · rintro ⟨⟨h1, h2⟩, h3⟩
        refine ⟨x.toNat, by omega, by omega, by omega, (ih _).1 ?_⟩
        rw [show (((x.toNat + 1 : Nat) : Int) - 1) = x from by omega]
        exact h3
      · rintro ⟨n, rfl, h1, h2, h3⟩
        have := (ih _).2 h3
        rw [show (((n + 1 : Nat) : Int) - 1) = (n : Int) from by omega] at this
        exact ⟨⟨by omega, by omega⟩, this⟩
  exact this l 0

/-! ### Some of the readings -/
def someTo (m : Nat) (l : List Rdg) (k : Nat) : List Rdg := ((List.range k).filter m.testBit).map fun i => l.getD i (0, 0, 0)
def someL (m : Nat) (l : List Rdg) : List Rdg := someTo m l l.length
def someH (h : HeapD) (m : Nat) : HeapD := { h with readings := someL m h.readings }

theorem someTo_yes {m k : Nat} (l : List Rdg) (h : m.testBit k = true) : someTo m l (k + 1) = someTo m l k ++ [l.getD k (0, 0, 0)] := by
  simp [someTo, List.range_succ, List.filter_append, h]
theorem someTo_no {m k : Nat} (l : List Rdg) (h : m.testBit k = false) : someTo m l (k + 1) = someTo m l k := by
  simp [someTo, List.range_succ, List.filter_append, h]
theorem someTo_len (m k : Nat) (l : List Rdg) : (someTo m l k).length ≤ k := by
  unfold someTo
  rw [List.length_map]
  have := List.length_filter_le m.testBit (List.range k)
  simpa using this

theorem mem_someL {m : Nat} {l : List Rdg} {x : Rdg} : x ∈ someL m l ↔ ∃ i, i < l.length ∧ m.testBit i = true ∧ x = l.getD i (0, 0, 0) := by
  unfold someL someTo
  simp only [List.mem_map, List.mem_filter, List.mem_range]
  exact ⟨fun ⟨i, ⟨h1, h2⟩, h3⟩ => ⟨i, h1, h2, h3.symm⟩, fun ⟨i, h1, h2, h3⟩ => ⟨i, ⟨h1, h2⟩, h3.symm⟩⟩

theorem range_take_map (l : List Rdg) (k : Nat) (hk : k ≤ l.length) : (List.range k).map (fun i => l.getD i (0, 0, 0)) = l.take k := by
  apply List.ext_getElem
  · simp; omega
  · intro i h1 h2
    have hi : i < k := by simpa using h1
    have : i < l.length := by omega
    simp [List.getD, this]

theorem some_take (l : List Rdg) (k : Nat) (hk : k ≤ l.length) : someL (2 ^ k - 1) l = l.take k := by
  unfold someL someTo
  have : (List.range l.length).filter (2 ^ k - 1).testBit = List.range k := by
    have e : l.length = k + (l.length - k) := by omega
    rw [e, List.range_add, List.filter_append]
    rw [List.filter_eq_self.2 (fun i hi => by rw [Nat.testBit_two_pow_sub_one]; simpa using hi)]
    rw [List.filter_eq_nil_iff.2 (fun i hi => by rw [Nat.testBit_two_pow_sub_one]; simp at hi ⊢; omega)]
    simp
  rw [this, range_take_map l k hk]

theorem sub_sound {h : HeapD} (hS : Sound h) {R : List Rdg} (hR : ∀ x ∈ R, x ∈ h.readings) (hl : R.length ≤ 5) : Sound { h with readings := R } :=
  ⟨hS.last0, hS.last9, hS.size0, hS.size1, hS.cool0, hS.cool1, hS.die0, hS.burn0, hS.burn1, hS.start0, hS.start1, hS.start2, hS.wetLen, hS.turns, hS.wet, fun x hx => hS.rdg x (hR x hx), hl, hS.many⟩

theorem fault_sound {h : HeapD} (hS : Sound h) : fault h = 0 := by
  unfold fault
  have h1 := hS.last9
  have h2 := hS.rdgs
  have h3 := hS.many
  rw [if_neg (by omega), if_neg, if_neg (by omega)]
  have hv : valid h = true := by
    have hw := hS.wetLen
    have a1 := hS.last0
    have a2 := hS.size0
    have a3 := hS.size1
    have a4 := hS.cool0
    have a5 := hS.cool1
    have a6 := hS.die0
    have a7 := hS.burn0
    have a8 := hS.burn1
    have a9 := hS.start0
    have a10 := hS.start1
    have a11 := hS.start2
    simp only [valid, numbersOk, inB, okR, Bool.and_eq_true, decide_eq_true_eq, List.all_eq_true]
    refine ⟨⟨⟨⟨⟨⟨⟨⟨⟨a1, a2, a3⟩, a4, a5⟩, a6⟩, a7, a8⟩, ⟨a9, a10⟩, a11⟩, hw⟩, hS.turns⟩, fun r hr => ?_⟩, fun x hx => ?_⟩
    · have := hS.wet r hr; omega
    · have := hS.rdg x hx
      simp only [okRdg, inB, Bool.and_eq_true, decide_eq_true_eq]
      omega
  rw [hv]
  simp

theorem some_sound {h : HeapD} (hS : Sound h) (m : Nat) : Sound (someH h m) :=
  sub_sound hS (fun x hx => by
    obtain ⟨i, hi, _, rfl⟩ := mem_someL.1 hx
    rw [show h.readings.getD i (0, 0, 0) = h.readings[i] from by simp [List.getD, hi]]
    exact List.getElem_mem _) (Nat.le_trans (someTo_len _ _ _) hS.rdgs)

end Cou
