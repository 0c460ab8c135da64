/-
  The heap of chapter 4 in plain Lean: what is valid, the heats, the truths. No program in sight.
-/
namespace Cou

abbrev Rng := Int × Int
abbrev Rdg := Int × Int × Int

structure HeapD where
  last : Int
  size : Int
  cool : Int
  die : Int
  burn : Int
  start : Rng
  wet : List Rng
  turns : List Int
  readings : List Rdg

def inB (n lo hi : Int) : Bool := decide (lo ≤ n) && decide (n ≤ hi)
def okR (r : Rng) (hi : Int) : Bool := decide (0 ≤ r.1) && decide (r.1 ≤ r.2) && decide (r.2 ≤ hi)
def turnsFrom (last : Int) : Int → List Int → Bool
  | _, [] => true
  | p, n :: l => inB n (p + 1) last && turnsFrom last n l
def isTurns (last : Int) (l : List Int) : Bool := turnsFrom last (-1) l
def okRdg (last : Int) (x : Rdg) : Bool := inB x.1 0 last && inB x.2.1 0 1000 && inB x.2.2 0 50
def numbersOk (h : HeapD) : Bool :=
  decide (0 ≤ h.last) && inB h.size 0 20 && inB h.cool 0 100 && decide (0 ≤ h.die) && inB h.burn h.die 500 && okR h.start 500
def valid (h : HeapD) : Bool :=
  numbersOk h && decide ((h.wet.length : Int) = h.last + 1) && isTurns h.last h.turns && h.wet.all (okR · 20) && h.readings.all (okRdg h.last)
def sizeR (r : Rng) : Int := r.2 - r.1 + 1
def prod (l : List Rng) : Int := l.foldr (fun r n => sizeR r * n) 1
def fault (h : HeapD) : Int :=
  if 9 < h.last ∨ 5 < h.readings.length then 3 else if valid h = false then 1 else if 2000 < prod (h.start :: h.wet) then 3 else 0

def cooled (cool n : Int) (turned : Bool) : Int := if turned then n - n * cool / 100 else n
def stepH (size cool : Int) (turns : List Int) (i : Nat) (n w : Int) : Int := cooled cool n (turns.contains (i : Int)) + size * w / 10
/-- The heat behind k hours. -/
def heatAt (size cool : Int) (turns : List Int) (start : Int) (wet : List Int) : Nat → Int
  | 0 => start
  | k + 1 => stepH size cool turns k (heatAt size cool turns start wet k) (wet.getD k 0)
/-- The heats of ten hours; 0 behind the last one. -/
def heatsTo (size cool : Int) (turns : List Int) (start : Int) (wet : List Int) (n : Nat) : List Int :=
  (List.range 10).map fun j => if j < n then heatAt size cool turns start wet (j + 1) else 0
def heats (h : HeapD) (t : Int × List Int) (turns : List Int) : List Int := heatsTo h.size h.cool turns t.1 t.2 t.2.length

def rightR (x : Rdg) (l : List Int) : Bool := inB (l.getD x.1.toNat 0 - x.2.1) (-x.2.2) x.2.2

def rangeL (r : Rng) : List Int := (List.range (sizeR r).toNat).map fun (k : Nat) => r.1 + (k : Int)
def prodL : List Rng → List (List Int)
  | [] => [[]]
  | r :: rs => (rangeL r).flatMap fun x => (prodL rs).map (x :: ·)

/-! ### Turnings, one number after the other -/
def askT (last p : Int) (l : List Int) (k : Nat) : Bool := inB (l.getD k 0) ((p :: l).getD k 0 + 1) last

theorem turnsFrom_all (last : Int) : ∀ (l : List Int) (p : Int), turnsFrom last p l = (List.range l.length).all (askT last p l) := by
  intro l
  induction l with
  | nil => intro p; rfl
  | cons n l ih =>
    intro p
    rw [List.length_cons, List.range_succ_eq_map, List.all_cons, List.all_map, turnsFrom, ih n]
    congr 1

theorem askT_prev (last : Int) (h0 : 0 ≤ last) (l : List Int) : ∀ k, (∀ j, j < k → askT last (-1) l j = true) → k ≤ l.length → -1 ≤ ((-1 : Int) :: l).getD k 0 ∧ ((-1 : Int) :: l).getD k 0 ≤ last := by
  intro k
  induction k with
  | zero => intro _ _; simp; omega
  | succ k ih =>
    intro h hk
    have h1 := h k (by omega)
    have h2 := ih (fun j hj => h j (by omega)) (by omega)
    simp only [askT, inB, Bool.and_eq_true, decide_eq_true_eq] at h1
    rw [List.getD_cons_succ]
    omega

theorem all_of_any {α : Type} (l : List α) (p : α → Bool) : (if l.any (fun k => !p k) then false else true) = l.all p := by
  rw [List.all_eq_not_any_not]
  cases l.any (fun k => !p k) <;> rfl

/-! ### How many lists there are, counted up to a bound -/
def capStep (m : Int) (r : Rng) : Int := min (m * sizeR r) 2001
def capTo (l : List Rng) (k : Nat) : Int := (l.take k).foldl capStep 1

theorem capTo_succ (l : List Rng) (k : Nat) (hk : k < l.length) : capTo l (k + 1) = capStep (capTo l k) l[k] := by
  unfold capTo
  rw [List.take_succ_eq_append_getElem hk, List.foldl_append]
  rfl

theorem prod_pos (l : List Rng) (h : ∀ r ∈ l, 1 ≤ sizeR r) : 1 ≤ prod l := by
  induction l with
  | nil => simp [prod]
  | cons r l ih =>
    have h1 := h r (by simp)
    have h2 := ih (fun x hx => h x (by simp [hx]))
    show 1 ≤ sizeR r * prod l
    have := Int.mul_le_mul h1 h2 (by omega) (by omega)
    omega

theorem cap_fold (l : List Rng) (h : ∀ r ∈ l, 1 ≤ sizeR r) : ∀ m, 1 ≤ m → m ≤ 2001 → l.foldl capStep m = min (m * prod l) 2001 := by
  induction l with
  | nil => intro m h1 h2; simp [prod]; omega
  | cons r l ih =>
    intro m h1 h2
    have hr := h r (by simp)
    have hp := prod_pos l (fun x hx => h x (by simp [hx]))
    rw [List.foldl_cons]
    have hm : 1 ≤ m * sizeR r := by have := Int.mul_le_mul h1 hr (by omega) (by omega); omega
    rw [ih (fun x hx => h x (by simp [hx])) _ (by unfold capStep; omega) (by unfold capStep; omega)]
    show min (capStep m r * prod l) 2001 = min (m * (sizeR r * prod l)) 2001
    rw [← Int.mul_assoc]
    unfold capStep
    by_cases hc : m * sizeR r ≤ 2001
    · rw [Int.min_eq_left hc]
    · have h3 : 2001 ≤ m * sizeR r * prod l := by have := Int.mul_le_mul (show (2001 : Int) ≤ m * sizeR r by omega) hp (by omega) (by omega); omega
      have h4 : 2001 ≤ 2001 * prod l := by omega
      rw [Int.min_eq_right (show 2001 ≤ m * sizeR r by omega)]
      omega

theorem capTo_bd (l : List Rng) (h : ∀ r ∈ l, 1 ≤ sizeR r) (k : Nat) : 1 ≤ capTo l k ∧ capTo l k ≤ 2001 := by
  unfold capTo
  have ht : ∀ r ∈ l.take k, 1 ≤ sizeR r := fun r hr => h r (List.mem_of_mem_take hr)
  rw [cap_fold _ ht 1 (by omega) (by omega)]
  have := prod_pos _ ht
  omega

theorem capTo_all (l : List Rng) (h : ∀ r ∈ l, 1 ≤ sizeR r) : (2000 < capTo l l.length) ↔ 2000 < prod l := by
  unfold capTo
  rw [List.take_length, cap_fold _ h 1 (by omega) (by omega)]
  omega

theorem okR_size {r : Rng} {n : Int} (h : okR r n = true) : 0 ≤ r.1 ∧ r.1 ≤ r.2 ∧ r.2 ≤ n ∧ 1 ≤ sizeR r ∧ sizeR r ≤ n + 1 := by
  simp only [okR, Bool.and_eq_true, decide_eq_true_eq] at h
  unfold sizeR
  omega

/-! ### Heats -/
theorem cooled_bd {cool n : Int} (hc0 : 0 ≤ cool) (hc1 : cool ≤ 100) (hn : 0 ≤ n) (t : Bool) : 0 ≤ cooled cool n t ∧ cooled cool n t ≤ n := by
  unfold cooled
  cases t
  · simp; omega
  · simp only [if_true]
    have h1 : 0 ≤ n * cool := Int.mul_nonneg hn hc0
    have h2 : n * cool ≤ n * 100 := Int.mul_le_mul_of_nonneg_left hc1 hn
    omega

theorem heatAt_bd {size cool : Int} (turns : List Int) {start : Int} (wet : List Int) (hs0 : 0 ≤ size) (hs1 : size ≤ 20) (hc0 : 0 ≤ cool) (hc1 : cool ≤ 100) (h0 : 0 ≤ start) (h1 : start ≤ 500) (hw : ∀ x ∈ wet, 0 ≤ x ∧ x ≤ 20) :
    ∀ k : Nat, 0 ≤ heatAt size cool turns start wet k ∧ heatAt size cool turns start wet k ≤ 500 + 40 * k := by
  intro k
  induction k with
  | zero => simp [heatAt]; omega
  | succ k ih =>
    have hb := cooled_bd hc0 hc1 ih.1 (turns.contains (k : Int))
    have hx : 0 ≤ wet.getD k 0 ∧ wet.getD k 0 ≤ 20 := by
      by_cases hk : k < wet.length
      · rw [List.getD_eq_getElem?_getD, List.getElem?_eq_getElem hk]; exact hw _ (List.getElem_mem _)
      · rw [List.getD_eq_getElem?_getD, List.getElem?_eq_none (by omega)]; simp
    have h2 : 0 ≤ size * wet.getD k 0 := Int.mul_nonneg hs0 hx.1
    have h3 : size * wet.getD k 0 ≤ 20 * 20 := Int.mul_le_mul hs1 hx.2 hx.1 (by omega)
    simp only [heatAt, stepH]
    generalize wet.getD k 0 = x at *
    generalize size * x = y at *
    push_cast
    omega

theorem heatsTo_length (size cool : Int) (turns : List Int) (start : Int) (wet : List Int) (n : Nat) : (heatsTo size cool turns start wet n).length = 10 := by simp [heatsTo]

theorem heatsTo_succ (size cool : Int) (turns : List Int) (start : Int) (wet : List Int) (n : Nat) (_hn : n < 10) :
    heatsTo size cool turns start wet (n + 1) = (heatsTo size cool turns start wet n).set n (heatAt size cool turns start wet (n + 1)) := by
  apply List.ext_getElem
  · simp [heatsTo]
  · intro i h1 h2
    have hi : i < 10 := by simpa [heatsTo] using h1
    simp only [heatsTo, List.getElem_map, List.getElem_range, List.getElem_set]
    by_cases e : n = i
    · subst e; simp
    · rw [if_neg e]
      by_cases h : i < n
      · rw [if_pos h, if_pos (by omega)]
      · rw [if_neg h, if_neg (by omega)]

theorem heats_bd {h : HeapD} {t : Int × List Int} (turns : List Int) (hs0 : 0 ≤ h.size) (hs1 : h.size ≤ 20) (hc0 : 0 ≤ h.cool) (hc1 : h.cool ≤ 100) (h0 : 0 ≤ t.1) (h1 : t.1 ≤ 500) (hw : ∀ x ∈ t.2, 0 ≤ x ∧ x ≤ 20) (_hl : t.2.length ≤ 10) :
    ∀ x ∈ heats h t turns, 0 ≤ x ∧ x ≤ 900 := by
  intro x hx
  obtain ⟨j, hj, rfl⟩ := List.mem_map.1 hx
  have hj' : j < 10 := by simpa using hj
  split
  · have := heatAt_bd turns t.2 hs0 hs1 hc0 hc1 h0 h1 hw (j + 1)
    omega
  · omega

theorem ten_of {α : Type} {l : List α} (h : l.length = 10) : ∃ a b c d e f g i j k, l = [a, b, c, d, e, f, g, i, j, k] := by
  match l, h with
  | [a, b, c, d, e, f, g, i, j, k], _ => exact ⟨a, b, c, d, e, f, g, i, j, k, rfl⟩

/-- One number of each range. -/
def listedAt (h : HeapD) (t : Int × List Int) (i : Nat) : Bool := inB (t.2.getD i 0) (h.wet.getD i (0, 0)).1 (h.wet.getD i (0, 0)).2
def listedT (h : HeapD) (t : Int × List Int) : Bool :=
  !((t.2.length : Int) != h.last + 1) && (inB t.1 h.start.1 h.start.2 && (List.range h.wet.length).all (listedAt h t))

def playErr (h : HeapD) (t : Int × List Int) (turns : List Int) : Int :=
  if fault h ≠ 0 then fault h else if listedT h t = false ∨ isTurns h.last turns = false then 2 else 0
def playOut (h : HeapD) (t : Int × List Int) (turns : List Int) : List Int := if playErr h t turns = 0 then (heats h t turns).take (h.last + 1).toNat else []

/-- What a heap without an error is. -/
structure Sound (h : HeapD) : Prop where
  last0 : 0 ≤ h.last
  last9 : h.last ≤ 9
  size0 : 0 ≤ h.size
  size1 : h.size ≤ 20
  cool0 : 0 ≤ h.cool
  cool1 : h.cool ≤ 100
  die0 : 0 ≤ h.die
  burn0 : h.die ≤ h.burn
  burn1 : h.burn ≤ 500
  start0 : 0 ≤ h.start.1
  start1 : h.start.1 ≤ h.start.2
  start2 : h.start.2 ≤ 500
  wetLen : (h.wet.length : Int) = h.last + 1
  turns : isTurns h.last h.turns = true
  wet : ∀ r ∈ h.wet, 0 ≤ r.1 ∧ r.1 ≤ r.2 ∧ r.2 ≤ 20
  rdg : ∀ x ∈ h.readings, (0 ≤ x.1 ∧ x.1 ≤ h.last) ∧ (0 ≤ x.2.1 ∧ x.2.1 ≤ 1000) ∧ 0 ≤ x.2.2 ∧ x.2.2 ≤ 50
  rdgs : h.readings.length ≤ 5
  many : prod (h.start :: h.wet) ≤ 2000

theorem sound_of {h : HeapD} (hf : fault h = 0) : Sound h := by
  unfold fault at hf
  split at hf
  · omega
  · split at hf
    · omega
    · split at hf
      · omega
      · rename_i h1 h2 h3
        have h2' : valid h = true := by simpa using h2
        simp only [valid, numbersOk, okR, inB, Bool.and_eq_true, decide_eq_true_eq, List.all_eq_true] at h2'
        obtain ⟨⟨⟨⟨⟨⟨⟨⟨⟨a1, a2⟩, a3⟩, a4⟩, a5⟩, a6⟩, a7⟩, a8⟩, a9⟩, a10⟩ := h2'
        refine ⟨a1, by omega, a2.1, a2.2, a3.1, a3.2, a4, a5.1, a5.2, a6.1.1, a6.1.2, a6.2, a7, a8, fun r hr => ?_, fun x hx => ?_, by omega, by omega⟩
        · have := a9 r hr; exact ⟨this.1.1, this.1.2, this.2⟩
        · have := a10 x hx
          simp only [okRdg, inB, Bool.and_eq_true, decide_eq_true_eq] at this
          exact ⟨this.1.1, this.1.2, this.2⟩

theorem listed_of {h : HeapD} (hS : Sound h) {t : Int × List Int} (hl : listedT h t = true) : t.2.length = h.wet.length ∧ t.2.length ≤ 10 ∧ 0 ≤ t.1 ∧ t.1 ≤ 500 ∧ ∀ x ∈ t.2, 0 ≤ x ∧ x ≤ 20 := by
  simp only [listedT, Bool.and_eq_true, List.all_eq_true, bne, Bool.not_not, beq_iff_eq] at hl
  obtain ⟨h1, h2, h3⟩ := hl
  simp only [inB, Bool.and_eq_true, decide_eq_true_eq] at h2
  have hwl := hS.wetLen
  have := hS.last9
  have := hS.start0
  have := hS.start2
  refine ⟨by omega, by omega, by omega, by omega, fun x hx => ?_⟩
  obtain ⟨i, hi, rfl⟩ := List.getElem_of_mem hx
  have hi' : i < h.wet.length := by omega
  have := h3 i (by simpa using hi')
  simp only [listedAt, inB, Bool.and_eq_true, decide_eq_true_eq] at this
  rw [show t.2.getD i 0 = t.2[i] from by simp [hi], show h.wet.getD i (0, 0) = h.wet[i] from by simp [hi']] at this
  have hr := hS.wet _ (List.getElem_mem hi')
  omega

/-- Whether a truth is one of the heap. -/
def isTruth (h : HeapD) (t : Int × List Int) : Bool := listedT h t && h.readings.all (rightR · (heats h t h.turns))

/-! ### The lists of one number of each range, in order. No program in sight. -/
theorem flat_at {α β : Type} (f : α → List β) (sz : Nat) (hf : ∀ x, (f x).length = sz) : ∀ (l : List α) (k j : Nat) (hk : k < l.length), j < sz → (l.flatMap f)[k * sz + j]? = (f l[k])[j]? := by
  intro l
  induction l with
  | nil => intro k j hk; simp at hk
  | cons x l ih =>
    intro k j hk hj
    cases k with
    | zero => simp [List.flatMap_cons, List.getElem?_append_left (show j < (f x).length by rw [hf]; exact hj)]
    | succ k =>
      have e : (k + 1) * sz + j = (f x).length + (k * sz + j) := by rw [hf, Nat.add_mul]; omega
      rw [List.flatMap_cons, e, List.getElem?_append_right (by omega), Nat.add_sub_cancel_left, ih k j (by simpa using hk) hj]
      rfl

theorem rangeL_length (r : Rng) : (rangeL r).length = (sizeR r).toNat := by simp [rangeL]
theorem rangeL_get (r : Rng) (c : Nat) (hc : c < (rangeL r).length) : (rangeL r)[c] = r.1 + (c : Int) := by simp [rangeL]

theorem prodL_length (r : Rng) (rs : List Rng) : (prodL (r :: rs)).length = (sizeR r).toNat * (prodL rs).length := by
  rw [prodL, List.length_flatMap]
  simp only [List.length_map, List.map_const', List.sum_replicate_nat]
  rw [rangeL_length]

theorem prodL_get (r : Rng) (rs : List Rng) (c j : Nat) (hc : c < (sizeR r).toNat) (hj : j < (prodL rs).length) :
    (prodL (r :: rs))[c * (prodL rs).length + j]? = some ((r.1 + (c : Int)) :: (prodL rs)[j]) := by
  rw [prodL, flat_at _ (prodL rs).length (fun x => by simp) (rangeL r) c j (by rw [rangeL_length]; exact hc) hj, rangeL_get]
  simp [hj]

theorem prodL_len : ∀ (rs : List Rng), ∀ x ∈ prodL rs, x.length = rs.length := by
  intro rs
  induction rs with
  | nil => intro x hx; simp [prodL] at hx; subst hx; rfl
  | cons r rs ih =>
    intro x hx
    simp only [prodL, List.mem_flatMap, List.mem_map] at hx
    obtain ⟨y, _, z, hz, rfl⟩ := hx
    simp [ih z hz]

/-- From index k on the lists that begin with pre stand in order. -/
def AtFrom (R : List Rng) (i k : Nat) (pre : List Int) : Prop := ∀ j s, (prodL (R.drop i))[j]? = some s → (prodL R)[k + j]? = some (pre ++ s)

theorem AtFrom.zero (R : List Rng) : AtFrom R 0 0 [] := fun j s h => by simpa using h

theorem AtFrom.next {R : List Rng} {i k : Nat} {pre : List Int} (h : AtFrom R i k pre) (hi : i < R.length) (c : Nat) (hc : c < (sizeR R[i]).toNat) :
    AtFrom R (i + 1) (k + c * (prodL (R.drop (i + 1))).length) (pre ++ [R[i].1 + (c : Int)]) := by
  intro j s hs
  obtain ⟨hj, rfl⟩ := List.getElem?_eq_some_iff.1 hs
  have := h (c * (prodL (R.drop (i + 1))).length + j) _ (by rw [List.drop_eq_getElem_cons hi]; exact prodL_get _ _ c j hc hj)
  rw [Nat.add_assoc, this]
  simp

theorem AtFrom.count {R : List Rng} {i : Nat} (hi : i < R.length) : (prodL (R.drop i)).length = (sizeR R[i]).toNat * (prodL (R.drop (i + 1))).length := by
  rw [List.drop_eq_getElem_cons hi, prodL_length]

theorem AtFrom.last {R : List Rng} {i k : Nat} {pre : List Int} (h : AtFrom R i k pre) (hi : i = R.length) : (prodL (R.drop i)).length = 1 ∧ ∃ hk : k < (prodL R).length, (prodL R)[k] = pre := by
  have e : R.drop i = [] := List.drop_eq_nil_of_le (by omega)
  rw [e]
  have := h 0 [] (by rw [e]; rfl)
  simp only [Nat.add_zero, List.append_nil] at this
  obtain ⟨hk, hx⟩ := List.getElem?_eq_some_iff.1 this
  exact ⟨rfl, hk, hx⟩

/-! ### The truths of a heap, without some readings -/
def toT (l : List Int) : Int × List Int := (l.headD 0, l.tail)
def okAt (h : HeapD) (out : List Int) (t : Int × List Int) (i : Nat) : Bool := out.contains (i : Int) || rightR (h.readings.getD i (0, 0, 0)) (heats h t h.turns)
def okT (h : HeapD) (out : List Int) (t : Int × List Int) : Bool := (List.range h.readings.length).all (okAt h out t)
def allL (h : HeapD) : List (List Int) := prodL (h.start :: h.wet)
def truthsL (h : HeapD) (out : List Int) : List (Int × List Int) := ((allL h).filter fun l => okT h out (toT l)).map toT
/-- How many of the first k lists are truths. -/
def cnt (h : HeapD) (out : List Int) (k : Nat) : Nat := (((allL h).take k).filter fun l => okT h out (toT l)).length

theorem cnt_zero (h : HeapD) (out : List Int) : cnt h out 0 = 0 := rfl
theorem cnt_all (h : HeapD) (out : List Int) : cnt h out (allL h).length = (truthsL h out).length := by
  unfold cnt truthsL
  rw [List.take_length, List.length_map]
theorem cnt_no {h : HeapD} {out : List Int} {k : Nat} (hk : k < (allL h).length) (hp : okT h out (toT (allL h)[k]) = false) : cnt h out (k + 1) = cnt h out k := by
  unfold cnt
  rw [List.take_succ_eq_append_getElem hk, List.filter_append, List.length_append]
  simp [hp]
theorem cnt_yes {h : HeapD} {out : List Int} {k : Nat} (hk : k < (allL h).length) (hp : okT h out (toT (allL h)[k]) = true) : cnt h out (k + 1) = cnt h out k + 1 := by
  unfold cnt
  rw [List.take_succ_eq_append_getElem hk, List.filter_append, List.length_append]
  simp [hp]
theorem filter_at {α β : Type} (p : α → Bool) (f : α → β) : ∀ (l : List α) (k : Nat) (hk : k < l.length), p l[k] = true → ((l.filter p).map f)[((l.take k).filter p).length]? = some (f l[k]) := by
  intro l
  induction l with
  | nil => intro k hk; simp at hk
  | cons x l ih =>
    intro k hk hp
    cases k with
    | zero =>
      have hp' : p x = true := hp
      simp [hp']
    | succ k =>
      have := ih k (by simpa using hk) hp
      by_cases hx : p x = true
      · simp only [List.filter_cons, hx, if_true, List.map_cons, List.take_succ_cons, List.length_cons, List.getElem?_cons_succ, List.getElem_cons_succ]
        exact this
      · simp only [List.filter_cons, hx, if_false, List.take_succ_cons, List.getElem_cons_succ, Bool.false_eq_true]
        exact this

theorem truthsL_at {h : HeapD} {out : List Int} {k : Nat} (hk : k < (allL h).length) (hp : okT h out (toT (allL h)[k]) = true) :
    ∃ hc : cnt h out k < (truthsL h out).length, (truthsL h out)[cnt h out k] = toT (allL h)[k] := by
  have := filter_at (fun l => okT h out (toT l)) toT (allL h) k hk hp
  obtain ⟨hc, hx⟩ := List.getElem?_eq_some_iff.1 this
  exact ⟨hc, hx⟩

theorem mem_prodL : ∀ (rs : List Rng) (x : List Int), x ∈ prodL rs → x.length = rs.length ∧ ∀ i, i < rs.length → (rs.getD i (0, 0)).1 ≤ x.getD i 0 ∧ x.getD i 0 ≤ (rs.getD i (0, 0)).2 := by
  intro rs
  induction rs with
  | nil => intro x hx; simp [prodL] at hx; subst hx; exact ⟨rfl, fun i hi => by simp at hi⟩
  | cons r rs ih =>
    intro x hx
    simp only [prodL, List.mem_flatMap, List.mem_map] at hx
    obtain ⟨y, hy, z, hz, rfl⟩ := hx
    obtain ⟨h1, h2⟩ := ih z hz
    refine ⟨by simp [h1], fun i hi => ?_⟩
    cases i with
    | zero =>
      obtain ⟨c, hc, rfl⟩ := List.mem_map.1 hy
      have : c < (sizeR r).toNat := by simpa using hc
      unfold sizeR at this
      simp
      omega
    | succ i => simpa using h2 i (by simpa using hi)

/-- A list of one number of each range, parted. -/
theorem list_split {h : HeapD} (hS : Sound h) {x : List Int} (hx : x ∈ allL h) : ∃ s rest, x = s :: rest ∧ rest.length = h.wet.length ∧ (0 ≤ s ∧ s ≤ 500) ∧ ∀ y ∈ rest, 0 ≤ y ∧ y ≤ 20 := by
  obtain ⟨hl, hb⟩ := mem_prodL _ _ hx
  cases x with
  | nil => simp at hl
  | cons s rest =>
    have h0 := hb 0 (by simp)
    simp at h0
    have := hS.start0
    have := hS.start2
    refine ⟨s, rest, rfl, by simpa using hl, by omega, fun y hy => ?_⟩
    obtain ⟨i, hi, rfl⟩ := List.getElem_of_mem hy
    have hi' : i < h.wet.length := by simp at hl; omega
    have h1 := hb (i + 1) (by simpa using hi')
    simp only [List.getD_cons_succ] at h1
    rw [show rest.getD i 0 = rest[i] from by simp [hi], show h.wet.getD i (0, 0) = h.wet[i] from by simp [hi']] at h1
    have := hS.wet _ (List.getElem_mem hi')
    omega

/-! ### Increasing lists, the short ones first. No program in sight. -/
/-- All increasing lists of so many numbers from 'from' on, below a number, in lexicographic order. -/
def combs (below : Nat) : Nat → Nat → List (List Int)
  | 0, _ => [[]]
  | m + 1, f => (List.range (below - m - f)).flatMap fun j => (combs below m (f + j + 1)).map fun x => ((f + j : Nat) : Int) :: x

def shortL (below : Nat) (p : List Int → Bool) : Option (List Int) := ((List.range (below + 1)).flatMap fun m => combs below m 0).find? p

theorem find_flat_first {α β : Type} (p : β → Bool) (f : α → List β) : ∀ (l : List α) (k : Nat) (hk : k < l.length) (c : β), (∀ j (hj : j < k), (f (l[j]'(by omega))).find? p = none) → (f l[k]).find? p = some c → (l.flatMap f).find? p = some c := by
  intro l
  induction l with
  | nil => intro k hk; simp at hk
  | cons x l ih =>
    intro k hk c h1 h2
    rw [List.flatMap_cons, List.find?_append]
    cases k with
    | zero =>
      have h2' : (f x).find? p = some c := h2
      rw [h2']; rfl
    | succ k =>
      have h0 : (f x).find? p = none := h1 0 (by omega)
      rw [h0]
      exact ih k (by simpa using hk) c (fun j hj => h1 (j + 1) (by omega)) h2

theorem find_flat_none {α β : Type} (p : β → Bool) (f : α → List β) (l : List α) (h : ∀ j (hj : j < l.length), (f l[j]).find? p = none) : (l.flatMap f).find? p = none := by
  rw [List.find?_eq_none]
  intro x hx
  obtain ⟨y, hy, hxy⟩ := List.mem_flatMap.1 hx
  obtain ⟨j, hj, rfl⟩ := List.getElem_of_mem hy
  have := h j hj
  rw [List.find?_eq_none] at this
  exact this x hxy

theorem find_map' {α β : Type} (p : β → Bool) (f : α → β) (l : List α) : (l.map f).find? p = (l.find? (p ∘ f)).map f := by
  induction l with
  | nil => rfl
  | cons x l ih =>
    simp only [List.map_cons, List.find?_cons, Function.comp]
    cases p (f x)
    · exact ih
    · rfl

/-! ### Increasing lists in order: what the shortest one is. No program in sight. -/
/-- Increasing, from f on, below a number. -/
def Inc (below : Nat) : Nat → List Int → Prop
  | _, [] => True
  | f, a :: x => ∃ n : Nat, a = n ∧ f ≤ n ∧ n < below ∧ Inc below (n + 1) x

theorem Inc.len {below : Nat} : ∀ (x : List Int) (f : Nat), Inc below f x → x.length ≤ below - f := by
  intro x
  induction x with
  | nil => intro f _; simp
  | cons a x ih =>
    rintro f ⟨n, _, h1, h2, h3⟩
    have := ih _ h3
    simp only [List.length_cons]
    omega

theorem mem_combs {below : Nat} : ∀ (m f : Nat) (x : List Int), x ∈ combs below m f ↔ x.length = m ∧ Inc below f x := by
  intro m
  induction m with
  | zero =>
    intro f x
    simp only [combs, List.mem_singleton]
    constructor
    · rintro rfl; exact ⟨rfl, trivial⟩
    · rintro ⟨h, _⟩; exact List.eq_nil_of_length_eq_zero h
  | succ m ih =>
    intro f x
    simp only [combs, List.mem_flatMap, List.mem_range, List.mem_map]
    constructor
    · rintro ⟨j, hj, y, hy, rfl⟩
      obtain ⟨h1, h2⟩ := (ih _ _).1 hy
      exact ⟨by simp [h1], f + j, rfl, by omega, by omega, h2⟩
    · rintro ⟨hl, hi⟩
      cases x with
      | nil => simp at hl
      | cons a x =>
        obtain ⟨n, rfl, h1, h2, h3⟩ := hi
        have := h3.len
        simp only [List.length_cons] at hl
        refine ⟨n - f, by omega, x, (ih _ _).2 ⟨by omega, ?_⟩, ?_⟩
        · rw [show f + (n - f) + 1 = n + 1 by omega]; exact h3
        · rw [show f + (n - f) = n by omega]

/-- Lexicographically before. -/
def before : List Int → List Int → Bool
  | [], b => !b.isEmpty
  | _ :: _, [] => false
  | x :: a, y :: b => if x = y then before a b else decide (x < y)

def shorter (a b : List Int) : Bool := decide (a.length < b.length) || (decide (a.length = b.length) && before a b)

theorem before_irrefl : ∀ a, before a a = false := by
  intro a
  induction a with
  | nil => rfl
  | cons x a ih => simp [before, ih]

theorem before_asymm : ∀ a b, before a b = true → before b a = false := by
  intro a
  induction a with
  | nil => intro b h; cases b <;> simp [before] at h ⊢
  | cons x a ih =>
    intro b h
    cases b with
    | nil => simp [before] at h
    | cons y b =>
      simp only [before] at h ⊢
      by_cases e : x = y
      · subst e; simp only [if_true] at h ⊢; exact ih _ h
      · rw [if_neg e] at h; rw [if_neg (fun e' => e e'.symm)]
        simp only [decide_eq_true_eq, decide_eq_false_iff_not] at h ⊢; omega

theorem before_total : ∀ a b, before a b = false → before b a = false → a = b := by
  intro a
  induction a with
  | nil => intro b h _; cases b <;> simp [before] at h ⊢
  | cons x a ih =>
    intro b h1 h2
    cases b with
    | nil => simp [before] at h2
    | cons y b =>
      simp only [before] at h1 h2
      by_cases e : x = y
      · subst e; simp only [if_true] at h1 h2; rw [ih _ h1 h2]
      · rw [if_neg e] at h1; rw [if_neg (fun e' => e e'.symm)] at h2
        simp only [decide_eq_false_iff_not] at h1 h2; omega

theorem shorter_irrefl (a : List Int) : shorter a a = false := by simp [shorter, before_irrefl]
theorem shorter_asymm {a b : List Int} (h : shorter a b = true) : shorter b a = false := by
  simp only [shorter, Bool.or_eq_true, Bool.and_eq_true, decide_eq_true_eq, Bool.or_eq_false_iff, Bool.and_eq_false_iff, decide_eq_false_iff_not] at h ⊢
  rcases h with h | ⟨h, hb⟩
  · exact ⟨by omega, .inl (by omega)⟩
  · exact ⟨by omega, .inr (before_asymm _ _ hb)⟩
theorem shorter_total {a b : List Int} (h1 : shorter a b = false) (h2 : shorter b a = false) : a = b := by
  simp only [shorter, Bool.or_eq_false_iff, Bool.and_eq_false_iff, decide_eq_false_iff_not] at h1 h2
  have hl : a.length = b.length := by omega
  exact before_total _ _ (h1.2.resolve_left (by simp [hl])) (h2.2.resolve_left (by simp [hl]))

/-- In such an order what is found first is the least. -/
theorem find_least {α : Type} (R : α → α → Prop) (p : α → Bool) : ∀ (l : List α), l.Pairwise R → ∀ c, l.find? p = some c → p c = true ∧ c ∈ l ∧ ∀ x ∈ l, p x = true → x = c ∨ R c x := by
  intro l
  induction l with
  | nil => intro _ c h; simp at h
  | cons y l ih =>
    intro hp c h
    rw [List.pairwise_cons] at hp
    rw [List.find?_cons] at h
    cases hy : p y with
    | true =>
      rw [hy] at h
      cases h
      refine ⟨hy, by simp, fun x hx _ => ?_⟩
      rcases List.mem_cons.1 hx with rfl | hx
      · exact .inl rfl
      · exact .inr (hp.1 _ hx)
    | false =>
      rw [hy] at h
      obtain ⟨h1, h2, h3⟩ := ih hp.2 c h
      refine ⟨h1, by simp [h2], fun x hx hpx => ?_⟩
      rcases List.mem_cons.1 hx with rfl | hx
      · rw [hy] at hpx; cases hpx
      · exact h3 x hx hpx

theorem pairwise_flat {α β : Type} (R : β → β → Prop) (f : α → List β) : ∀ (l : List α), (∀ x ∈ l, (f x).Pairwise R) → l.Pairwise (fun x y => ∀ a ∈ f x, ∀ b ∈ f y, R a b) → (l.flatMap f).Pairwise R := by
  intro l
  induction l with
  | nil => intro _ _; simp
  | cons x l ih =>
    intro h1 h2
    rw [List.pairwise_cons] at h2
    rw [List.flatMap_cons, List.pairwise_append]
    refine ⟨h1 x (by simp), ih (fun y hy => h1 y (by simp [hy])) h2.2, fun a ha b hb => ?_⟩
    obtain ⟨y, hy, hby⟩ := List.mem_flatMap.1 hb
    exact h2.1 y hy a ha b hby

theorem combs_sorted (below : Nat) : ∀ (m f : Nat), (combs below m f).Pairwise fun a b => before a b = true := by
  intro m
  induction m with
  | zero => intro f; simp [combs]
  | succ m ih =>
    intro f
    unfold combs
    refine pairwise_flat _ _ _ (fun j _ => ?_) ?_
    · rw [List.pairwise_map]
      exact (ih (f + j + 1)).imp fun h => by simpa [before] using h
    · refine List.pairwise_lt_range.imp fun {i j} hij => ?_
      intro a ha b hb
      obtain ⟨x, _, rfl⟩ := List.mem_map.1 ha
      obtain ⟨y, _, rfl⟩ := List.mem_map.1 hb
      simp only [before]
      rw [if_neg (by omega)]
      simp; omega

theorem shortAll_sorted (below : Nat) : ((List.range (below + 1)).flatMap fun m => combs below m 0).Pairwise fun a b => shorter a b = true := by
  refine pairwise_flat _ _ _ (fun m _ => ?_) ?_
  · refine List.Pairwise.imp_of_mem ?_ (combs_sorted below m 0)
    intro a b ha hb h
    simp [shorter, ((mem_combs _ _ _).1 ha).1, ((mem_combs _ _ _).1 hb).1, h]
  · refine List.pairwise_lt_range.imp fun {i j} hij => ?_
    intro a ha b hb
    simp [shorter, ((mem_combs _ _ _).1 ha).1, ((mem_combs _ _ _).1 hb).1, hij]

theorem mem_shortAll (below : Nat) (x : List Int) : x ∈ ((List.range (below + 1)).flatMap fun m => combs below m 0) ↔ Inc below 0 x := by
  rw [List.mem_flatMap]
  constructor
  · rintro ⟨m, _, h⟩; exact ((mem_combs _ _ _).1 h).2
  · intro h
    have := h.len
    exact ⟨x.length, by simp; omega, (mem_combs _ _ _).2 ⟨rfl, h⟩⟩

/-- **THE SHORTEST ONE.** -/
theorem shortL_some {below : Nat} {p : List Int → Bool} {c : List Int} (h : shortL below p = some c) : p c = true ∧ Inc below 0 c ∧ ∀ x, Inc below 0 x → p x = true → shorter x c = false := by
  obtain ⟨h1, h2, h3⟩ := find_least _ p _ (shortAll_sorted below) c h
  refine ⟨h1, (mem_shortAll _ _).1 h2, fun x hx hp => ?_⟩
  rcases h3 x ((mem_shortAll _ _).2 hx) hp with rfl | hr
  · exact shorter_irrefl _
  · exact shorter_asymm hr
theorem shortL_none {below : Nat} {p : List Int → Bool} (h : shortL below p = none) : ∀ x, Inc below 0 x → p x = false := by
  intro x hx
  unfold shortL at h
  rw [List.find?_eq_none] at h
  simpa using h x ((mem_shortAll _ _).2 hx)
theorem shortL_is {below : Nat} {p : List Int → Bool} {c : List Int} (h1 : p c = true) (h2 : Inc below 0 c) (h3 : ∀ x, Inc below 0 x → p x = true → shorter x c = false) : shortL below p = some c := by
  cases h : shortL below p with
  | none => rw [shortL_none h c h2] at h1; cases h1
  | some d =>
    obtain ⟨a, b, e⟩ := shortL_some h
    rw [shorter_total (e c h2 h1) (h3 d b a)]

/-! ### What 'every' gathers: the heats of all truths, equal neighbours once. No program in sight. -/
def snocD (acc : List (List Int)) (x : List Int) : List (List Int) := if acc.getLast? = some x then acc else acc ++ [x]
def everyL (h : HeapD) (turns : List Int) : List (List Int) := (truthsL h []).foldl (fun acc t => snocD acc (heats h t turns)) []
def everyTo (h : HeapD) (turns : List Int) (k : Nat) : List (List Int) := ((truthsL h []).take k).foldl (fun acc t => snocD acc (heats h t turns)) []

theorem everyTo_succ {h : HeapD} {turns : List Int} {k : Nat} (hk : k < (truthsL h []).length) : everyTo h turns (k + 1) = snocD (everyTo h turns k) (heats h (truthsL h [])[k] turns) := by
  unfold everyTo
  rw [List.take_succ_eq_append_getElem hk, List.foldl_append]
  rfl
theorem everyTo_all (h : HeapD) (turns : List Int) : everyTo h turns (truthsL h []).length = everyL h turns := by unfold everyTo; rw [List.take_length]; rfl

theorem mem_snocD (acc : List (List Int)) (x y : List Int) : y ∈ snocD acc x ↔ y ∈ acc ∨ y = x := by
  unfold snocD
  split
  · rename_i h
    constructor
    · exact .inl
    · rintro (h1 | rfl)
      · exact h1
      · exact List.mem_of_getLast? h
  · simp

theorem mem_fold {α : Type} (f : α → List Int) : ∀ (l : List α) (acc : List (List Int)) (y : List Int), y ∈ l.foldl (fun acc t => snocD acc (f t)) acc ↔ y ∈ acc ∨ ∃ t ∈ l, y = f t := by
  intro l
  induction l with
  | nil => intro acc y; simp
  | cons a l ih =>
    intro acc y
    rw [List.foldl_cons, ih, mem_snocD]
    simp only [List.mem_cons, exists_eq_or_imp, or_assoc]

theorem mem_everyL (h : HeapD) (turns : List Int) (y : List Int) : y ∈ everyL h turns ↔ ∃ t ∈ truthsL h [], y = heats h t turns := by
  unfold everyL; rw [mem_fold]; simp
theorem mem_everyTo {h : HeapD} {turns : List Int} {k : Nat} {y : List Int} (hy : y ∈ everyTo h turns k) : ∃ t ∈ truthsL h [], y = heats h t turns := by
  unfold everyTo at hy
  rw [mem_fold] at hy
  simp only [List.not_mem_nil, false_or] at hy
  obtain ⟨t, ht, rfl⟩ := hy
  exact ⟨t, List.mem_of_mem_take ht, rfl⟩
theorem everyTo_ten {h : HeapD} {turns : List Int} {k : Nat} : ∀ y ∈ everyTo h turns k, y.length = 10 := by
  intro y hy
  obtain ⟨t, _, rfl⟩ := mem_everyTo hy
  exact heatsTo_length _ _ _ _ _ _
theorem everyL_ten {h : HeapD} {turns : List Int} : ∀ y ∈ everyL h turns, y.length = 10 := by
  rw [← everyTo_all]; exact everyTo_ten
theorem snocD_len (acc : List (List Int)) (x : List Int) : (snocD acc x).length ≤ acc.length + 1 := by
  unfold snocD; split <;> simp
theorem everyTo_len (h : HeapD) (turns : List Int) : ∀ k, (everyTo h turns k).length ≤ k := by
  intro k
  induction k with
  | zero => simp [everyTo]
  | succ k ih =>
    by_cases hk : k < (truthsL h []).length
    · rw [everyTo_succ hk]
      have := snocD_len (everyTo h turns k) (heats h (truthsL h [])[k] turns)
      omega
    · have e : everyTo h turns (k + 1) = everyTo h turns k := by
        unfold everyTo; rw [List.take_of_length_le (by omega), List.take_of_length_le (by omega)]
      rw [e]; omega
theorem everyL_len (h : HeapD) (turns : List Int) : (everyL h turns).length ≤ (truthsL h []).length := by
  rw [← everyTo_all]; exact everyTo_len _ _ _

theorem everyL_nil {h : HeapD} {turns : List Int} (hn : truthsL h [] ≠ []) : everyL h turns ≠ [] := by
  intro he
  obtain ⟨t, ht⟩ := List.exists_mem_of_ne_nil _ hn
  have := (mem_everyL h turns (heats h t turns)).2 ⟨t, ht, rfl⟩
  rw [he] at this
  cases this

theorem prodL_count (rs : List Rng) (hr : ∀ r ∈ rs, 1 ≤ sizeR r) : ((prodL rs).length : Int) = prod rs := by
  induction rs with
  | nil => rfl
  | cons r rs ih =>
    rw [prodL_length]
    have h1 := hr r (by simp)
    have ih' := ih (fun x hx => hr x (by simp [hx]))
    show (((sizeR r).toNat * (prodL rs).length : Nat) : Int) = sizeR r * prod rs
    rw [Int.natCast_mul, ih', Int.toNat_of_nonneg (by omega)]

theorem truthsL_len {h : HeapD} (hS : Sound h) (out : List Int) : (truthsL h out).length ≤ 2000 := by
  have h1 : (truthsL h out).length ≤ (allL h).length := by unfold truthsL; rw [List.length_map]; exact List.length_filter_le _ _
  have h2 := prodL_count (h.start :: h.wet) (fun r hr => by
    rcases List.mem_cons.1 hr with rfl | hr
    · have := hS.start1; unfold sizeR; omega
    · have := hS.wet r hr; unfold sizeR; omega)
  have h3 := hS.many
  unfold allL at h1
  omega

/-! ### The bounds of all hours, as they are gathered. No program in sight. -/
def wid (r : Rng) (x : Int) : Rng := (min r.1 x, max r.2 x)
/-- One more list of heats, as far as hour i: k lists came ahead. -/
def partB (n k : Nat) (R : List Rng) (l : List Int) (i : Nat) : List Rng :=
  if k = 0 then (List.range i).map fun j => (l.getD j 0, l.getD j 0) else (List.range n).map fun j => if j < i then wid (R.getD j (0, 0)) (l.getD j 0) else R.getD j (0, 0)
def boundsTo (n : Nat) (ls : List (List Int)) : Nat → List Rng
  | 0 => []
  | k + 1 => partB n k (boundsTo n ls k) (ls.getD k []) n
def boundsL (n : Nat) (ls : List (List Int)) : List Rng := boundsTo n ls ls.length

theorem partB_len0 (n : Nat) (R : List Rng) (l : List Int) (i : Nat) : (partB n 0 R l i).length = i := by simp [partB]
theorem partB_len (n k : Nat) (R : List Rng) (l : List Int) (i : Nat) (hk : k ≠ 0) : (partB n k R l i).length = n := by simp [partB, hk]
theorem boundsTo_len (n : Nat) (ls : List (List Int)) (k : Nat) (hk : k ≠ 0) : (boundsTo n ls k).length = n := by
  cases k with
  | zero => exact absurd rfl hk
  | succ k =>
    unfold boundsTo
    by_cases h : k = 0
    · subst h; exact partB_len0 _ _ _ _
    · exact partB_len _ _ _ _ _ h

theorem partB_zero {n k : Nat} {R : List Rng} {l : List Int} (hR : k ≠ 0 → R.length = n) (h0 : k = 0 → R = []) : partB n k R l 0 = R := by
  unfold partB
  split
  · rename_i h; rw [h0 h]; rfl
  · rename_i h
    apply List.ext_getElem
    · simp [hR h]
    · intro i h1 h2; simp [List.getD, h2]

theorem partB_app {n : Nat} {R : List Rng} {l : List Int} {i : Nat} : partB n 0 R l i ++ [(l.getD i 0, l.getD i 0)] = partB n 0 R l (i + 1) := by
  simp [partB, List.range_succ]

/-- At the first list the appended range is made wider by its own number. -/
theorem partB_set0 {n : Nat} {R : List Rng} {l : List Int} {i : Nat} : (partB n 0 R l (i + 1)).set i (wid ((partB n 0 R l (i + 1)).getD i (0, 0)) (l.getD i 0)) = partB n 0 R l (i + 1) := by
  apply List.ext_getElem
  · simp
  · intro j h1 h2
    rw [List.getElem_set]
    split
    · rename_i h; subst h; simp [partB, wid, List.getD]
    · rfl

theorem partB_set {n k : Nat} {R : List Rng} {l : List Int} {i : Nat} (hk : k ≠ 0) (hi : i < n) : (partB n k R l i).set i (wid ((partB n k R l i).getD i (0, 0)) (l.getD i 0)) = partB n k R l (i + 1) := by
  apply List.ext_getElem
  · simp [partB, hk]
  · intro j h1 h2
    have hj : j < n := by simpa [partB, hk] using h2
    rw [List.getElem_set]
    split
    · rename_i h; subst h; simp [partB, hk, hi]
    · rename_i h
      simp only [partB, hk, if_false, List.getElem_map, List.getElem_range]
      by_cases h3 : j < i
      · rw [if_pos h3, if_pos (by omega)]
      · rw [if_neg h3, if_neg (by omega)]

/-! ### What is left out; the first wrong one. No program in sight. -/
def canL (h : HeapD) (out : List Int) : Bool := !(truthsL h out).isEmpty
def leaveS (h : HeapD) : Option (List Int) := shortL h.readings.length (canL h)
def leaveL (h : HeapD) : List Int := if fault h ≠ 0 then [] else (leaveS h).getD []

def upto (n : Nat) : List Int := (List.range n).map fun (i : Nat) => (i : Int)

theorem inc_range : ∀ (n f below : Nat), f + n ≤ below → Inc below f ((List.range' f n).map fun (i : Nat) => (i : Int)) := by
  intro n
  induction n with
  | zero => intro f below _; trivial
  | succ n ih =>
    intro f below h
    rw [List.range'_succ, List.map_cons]
    exact ⟨f, rfl, Nat.le_refl _, by omega, ih (f + 1) below (by omega)⟩

theorem allL_ne {h : HeapD} (hS : Sound h) : allL h ≠ [] := by
  intro he
  have h2 := prodL_count (h.start :: h.wet) (fun r hr => by
    rcases List.mem_cons.1 hr with rfl | hr
    · have := hS.start1; unfold sizeR; omega
    · have := hS.wet r hr; unfold sizeR; omega)
  have h3 := prod_pos (h.start :: h.wet) (fun r hr => by
    rcases List.mem_cons.1 hr with rfl | hr
    · have := hS.start1; unfold sizeR; omega
    · have := hS.wet r hr; unfold sizeR; omega)
  unfold allL at he
  rw [he] at h2
  simp at h2
  omega

theorem canL_all {h : HeapD} (hS : Sound h) : canL h (upto h.readings.length) = true := by
  obtain ⟨x, hx⟩ := List.exists_mem_of_ne_nil _ (allL_ne hS)
  have hm : toT x ∈ truthsL h (upto h.readings.length) := by
    unfold truthsL
    refine List.mem_map.2 ⟨x, List.mem_filter.2 ⟨hx, ?_⟩, rfl⟩
    unfold okT
    rw [List.all_eq_true]
    intro i hi
    have hi' : i < h.readings.length := by simpa using hi
    unfold okAt
    have : (upto h.readings.length).contains (i : Int) = true := by
      rw [List.contains_iff_mem]
      exact List.mem_map.2 ⟨i, by simpa using hi', rfl⟩
    rw [this]; rfl
  unfold canL
  cases hl : truthsL h (upto h.readings.length) with
  | nil => rw [hl] at hm; cases hm
  | cons a l => rfl

theorem leaveS_some {h : HeapD} (hS : Sound h) : ∃ c, leaveS h = some c := by
  cases he : leaveS h with
  | some c => exact ⟨c, rfl⟩
  | none =>
    have h1 := shortL_none he (upto h.readings.length) (by
      unfold upto
      rw [List.range_eq_range']
      exact inc_range _ 0 _ (by omega))
    rw [canL_all hS] at h1
    cases h1

def withR (h : HeapD) (k : Nat) : HeapD := { h with readings := h.readings.take k }
def wrongAt (h : HeapD) (i : Nat) : Bool := (truthsL (withR h (i + 1)) []).isEmpty
def firstS (h : HeapD) : Option Nat := (List.range h.readings.length).find? (wrongAt h)
def optV : Option Nat → Int
  | some i => (i : Int)
  | none => 0
def optE : Option Nat → Int
  | some _ => 0
  | none => 7
def firstV (h : HeapD) : Int := if fault h ≠ 0 then 0 else optV (firstS h)
def firstE (h : HeapD) : Int := if fault h ≠ 0 then fault h else optE (firstS h)

theorem withR_sound {h : HeapD} (hS : Sound h) (k : Nat) : Sound (withR h k) :=
  ⟨hS.last0, hS.last9, hS.size0, hS.size1, hS.cool0, hS.cool1, hS.die0, hS.burn0, hS.burn1, hS.start0, hS.start1, hS.start2, hS.wetLen, hS.turns, hS.wet,
    fun x hx => hS.rdg x (List.mem_of_mem_take hx), by have := hS.rdgs; simp [withR]; omega, hS.many⟩

theorem firstS_at {h : HeapD} {k : Nat} (hk : k < h.readings.length) (h1 : ∀ j, j < k → wrongAt h j = false) (h2 : wrongAt h k = true) : firstS h = some k := by
  unfold firstS
  rw [List.find?_eq_some_iff_getElem]
  refine ⟨h2, k, by simpa using hk, by simp, fun j hj => ?_⟩
  simp [h1 j hj]
theorem firstS_no {h : HeapD} (h1 : ∀ j, j < h.readings.length → wrongAt h j = false) : firstS h = none := by
  unfold firstS
  rw [List.find?_eq_none]
  intro x hx
  rw [h1 x (by simpa using hx)]
  simp

end Cou
