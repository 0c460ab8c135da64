/-
  The lists of one number of each range, in order. No program in sight.
-/
import Derived.Test.YtoibfafmnaooaaaMath
namespace Cou

theorem flat_at {α β : Type} (f : α → List β) (sz : Nat) (hf : ∀ x, (f x).length = sz) : ∀ (l : List α) (k j : Nat) (hk : k < l.length), j < sz → (l.flatMap f)[k * sz + j]? = (f l[k])[j]? := by
  intro l
  induction l with
  | nil => intro k j hk; simp at hk
  | cons x l ih =>
    intro k j hk hj
    cases k with
    | zero => simp [List.flatMap_cons, List.getElem?_append_left (show j < (f x).length by rw [hf]; exact hj)]
    | succ k =>
      have e : (k + 1) * sz + j = (f x).length + (k * sz + j) := by rw [hf, Nat.add_mul]; omega
      rw [List.flatMap_cons, e, List.getElem?_append_right (by omega), Nat.add_sub_cancel_left, ih k j (by simpa using hk) hj]
      rfl

theorem rangeL_length (r : Rng) : (rangeL r).length = (sizeR r).toNat := by simp [rangeL]
theorem rangeL_get (r : Rng) (c : Nat) (hc : c < (rangeL r).length) : (rangeL r)[c] = r.1 + (c : Int) := by simp [rangeL]

theorem prodL_length (r : Rng) (rs : List Rng) : (prodL (r :: rs)).length = (sizeR r).toNat * (prodL rs).length := by
  rw [prodL, List.length_flatMap]
  simp only [List.length_map, List.map_const', List.sum_replicate_nat]
  rw [rangeL_length]

theorem prodL_get (r : Rng) (rs : List Rng) (c j : Nat) (hc : c < (sizeR r).toNat) (hj : j < (prodL rs).length) :
    (prodL (r :: rs))[c * (prodL rs).length + j]? = some ((r.1 + (c : Int)) :: (prodL rs)[j]) := by
  rw [prodL, flat_at _ (prodL rs).length (fun x => by simp) (rangeL r) c j (by rw [rangeL_length]; exact hc) hj, rangeL_get]
  simp [hj]

theorem prodL_len : ∀ (rs : List Rng), ∀ x ∈ prodL rs, x.length = rs.length := by
  intro rs
  induction rs with
  | nil => intro x hx; simp [prodL] at hx; subst hx; rfl
  | cons r rs ih =>
    intro x hx
    simp only [prodL, List.mem_flatMap, List.mem_map] at hx
    obtain ⟨y, _, z, hz, rfl⟩ := hx
    simp [ih z hz]

/-- From index k on the lists that begin with pre stand in order. -/
def AtFrom (R : List Rng) (i k : Nat) (pre : List Int) : Prop := ∀ j s, (prodL (R.drop i))[j]? = some s → (prodL R)[k + j]? = some (pre ++ s)

theorem AtFrom.zero (R : List Rng) : AtFrom R 0 0 [] := fun j s h => by simpa using h

theorem AtFrom.next {R : List Rng} {i k : Nat} {pre : List Int} (h : AtFrom R i k pre) (hi : i < R.length) (c : Nat) (hc : c < (sizeR R[i]).toNat) :
    AtFrom R (i + 1) (k + c * (prodL (R.drop (i + 1))).length) (pre ++ [R[i].1 + (c : Int)]) := by
  intro j s hs
  obtain ⟨hj, rfl⟩ := List.getElem?_eq_some_iff.1 hs
  have := h (c * (prodL (R.drop (i + 1))).length + j) _ (by rw [List.drop_eq_getElem_cons hi]; exact prodL_get _ _ c j hc hj)
  rw [Nat.add_assoc, this]
  simp

theorem AtFrom.count {R : List Rng} {i : Nat} (hi : i < R.length) : (prodL (R.drop i)).length = (sizeR R[i]).toNat * (prodL (R.drop (i + 1))).length := by
  rw [List.drop_eq_getElem_cons hi, prodL_length]

theorem AtFrom.last {R : List Rng} {i k : Nat} {pre : List Int} (h : AtFrom R i k pre) (hi : i = R.length) : (prodL (R.drop i)).length = 1 ∧ ∃ hk : k < (prodL R).length, (prodL R)[k] = pre := by
  have e : R.drop i = [] := List.drop_eq_nil_of_le (by omega)
  rw [e]
  have := h 0 [] (by rw [e]; rfl)
  simp only [Nat.add_zero, List.append_nil] at this
  obtain ⟨hk, hx⟩ := List.getElem?_eq_some_iff.1 this
  exact ⟨rfl, hk, hx⟩

/-! ### The truths of a heap, without some readings -/
def toT (l : List Int) : Int × List Int := (l.headD 0, l.tail)
def okAt (h : HeapD) (out : List Int) (t : Int × List Int) (i : Nat) : Bool := out.contains (i : Int) || rightR (h.readings.getD i (0, 0, 0)) (heats h t h.turns)
def okT (h : HeapD) (out : List Int) (t : Int × List Int) : Bool := (List.range h.readings.length).all (okAt h out t)
def allL (h : HeapD) : List (List Int) := prodL (h.start :: h.wet)
def truthsL (h : HeapD) (out : List Int) : List (Int × List Int) := ((allL h).filter fun l => okT h out (toT l)).map toT
/-- How many of the first k lists are truths. -/
def cnt (h : HeapD) (out : List Int) (k : Nat) : Nat := (((allL h).take k).filter fun l => okT h out (toT l)).length

theorem cnt_zero (h : HeapD) (out : List Int) : cnt h out 0 = 0 := rfl
theorem cnt_all (h : HeapD) (out : List Int) : cnt h out (allL h).length = (truthsL h out).length := by
  unfold cnt truthsL
  rw [List.take_length, List.length_map]
theorem cnt_no {h : HeapD} {out : List Int} {k : Nat} (hk : k < (allL h).length) (hp : okT h out (toT (allL h)[k]) = false) : cnt h out (k + 1) = cnt h out k := by
  unfold cnt
  rw [List.take_succ_eq_append_getElem hk, List.filter_append, List.length_append]
  simp [hp]
theorem cnt_yes {h : HeapD} {out : List Int} {k : Nat} (hk : k < (allL h).length) (hp : okT h out (toT (allL h)[k]) = true) : cnt h out (k + 1) = cnt h out k + 1 := by
  unfold cnt
  rw [List.take_succ_eq_append_getElem hk, List.filter_append, List.length_append]
  simp [hp]
theorem filter_at {α β : Type} (p : α → Bool) (f : α → β) : ∀ (l : List α) (k : Nat) (hk : k < l.length), p l[k] = true → ((l.filter p).map f)[((l.take k).filter p).length]? = some (f l[k]) := by
  intro l
  induction l with
  | nil => intro k hk; simp at hk
  | cons x l ih =>
    intro k hk hp
    cases k with
    | zero =>
      have hp' : p x = true := hp
      simp [hp']
    | succ k =>
      have := ih k (by simpa using hk) hp
      by_cases hx : p x = true
      · simp only [List.filter_cons, hx, if_true, List.map_cons, List.take_succ_cons, List.length_cons, List.getElem?_cons_succ, List.getElem_cons_succ]
        exact this
      · simp only [List.filter_cons, hx, if_false, List.take_succ_cons, List.getElem_cons_succ, Bool.false_eq_true]
        exact this

theorem truthsL_at {h : HeapD} {out : List Int} {k : Nat} (hk : k < (allL h).length) (hp : okT h out (toT (allL h)[k]) = true) :
    ∃ hc : cnt h out k < (truthsL h out).length, (truthsL h out)[cnt h out k] = toT (allL h)[k] := by
  have := filter_at (fun l => okT h out (toT l)) toT (allL h) k hk hp
  obtain ⟨hc, hx⟩ := List.getElem?_eq_some_iff.1 this
  exact ⟨hc, hx⟩

theorem mem_prodL : ∀ (rs : List Rng) (x : List Int), x ∈ prodL rs → x.length = rs.length ∧ ∀ i, i < rs.length → (rs.getD i (0, 0)).1 ≤ x.getD i 0 ∧ x.getD i 0 ≤ (rs.getD i (0, 0)).2 := by
  intro rs
  induction rs with
  | nil => intro x hx; simp [prodL] at hx; subst hx; exact ⟨rfl, fun i hi => by simp at hi⟩
  | cons r rs ih =>
    intro x hx
    simp only [prodL, List.mem_flatMap, List.mem_map] at hx
    obtain ⟨y, hy, z, hz, rfl⟩ := hx
    obtain ⟨h1, h2⟩ := ih z hz
    refine ⟨by simp [h1], fun i hi => ?_⟩
    cases i with
    | zero =>
      obtain ⟨c, hc, rfl⟩ := List.mem_map.1 hy
      have : c < (sizeR r).toNat := by simpa using hc
      unfold sizeR at this
      simp
      omega
    | succ i => simpa using h2 i (by simpa using hi)

/-- A list of one number of each range, parted. -/
theorem list_split {h : HeapD} (hS : Sound h) {x : List Int} (hx : x ∈ allL h) : ∃ s rest, x = s :: rest ∧ rest.length = h.wet.length ∧ (0 ≤ s ∧ s ≤ 500) ∧ ∀ y ∈ rest, 0 ≤ y ∧ y ≤ 20 := by
  obtain ⟨hl, hb⟩ := mem_prodL _ _ hx
  cases x with
  | nil => simp at hl
  | cons s rest =>
    have h0 := hb 0 (by simp)
    simp at h0
    have := hS.start0
    have := hS.start2
    refine ⟨s, rest, rfl, by simpa using hl, by omega, fun y hy => ?_⟩
    obtain ⟨i, hi, rfl⟩ := List.getElem_of_mem hy
    have hi' : i < h.wet.length := by simp at hl; omega
    have h1 := hb (i + 1) (by simpa using hi')
    simp only [List.getD_cons_succ] at h1
    rw [show rest.getD i 0 = rest[i] from by simp [hi], show h.wet.getD i (0, 0) = h.wet[i] from by simp [hi']] at h1
    have := hS.wet _ (List.getElem_mem hi')
    omega

end Cou
