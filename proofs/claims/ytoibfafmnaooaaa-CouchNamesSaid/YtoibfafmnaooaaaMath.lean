/-
  The heap of chapter 4 in plain Lean: what is valid, the heats, the truths. No program in sight.
-/
namespace Cou

abbrev Rng := Int × Int
abbrev Rdg := Int × Int × Int

structure HeapD where
  last : Int
  size : Int
  cool : Int
  die : Int
  burn : Int
  start : Rng
  wet : List Rng
  turns : List Int
  readings : List Rdg

def inB (n lo hi : Int) : Bool := decide (lo ≤ n) && decide (n ≤ hi)
def okR (r : Rng) (hi : Int) : Bool := decide (0 ≤ r.1) && decide (r.1 ≤ r.2) && decide (r.2 ≤ hi)
def turnsFrom (last : Int) : Int → List Int → Bool
  | _, [] => true
  | p, n :: l => inB n (p + 1) last && turnsFrom last n l
def isTurns (last : Int) (l : List Int) : Bool := turnsFrom last (-1) l
def okRdg (last : Int) (x : Rdg) : Bool := inB x.1 0 last && inB x.2.1 0 1000 && inB x.2.2 0 50
def numbersOk (h : HeapD) : Bool :=
  decide (0 ≤ h.last) && inB h.size 0 20 && inB h.cool 0 100 && decide (0 ≤ h.die) && inB h.burn h.die 500 && okR h.start 500
def valid (h : HeapD) : Bool :=
  numbersOk h && decide ((h.wet.length : Int) = h.last + 1) && isTurns h.last h.turns && h.wet.all (okR · 20) && h.readings.all (okRdg h.last)
def sizeR (r : Rng) : Int := r.2 - r.1 + 1
def prod (l : List Rng) : Int := l.foldr (fun r n => sizeR r * n) 1
def fault (h : HeapD) : Int :=
  if 9 < h.last ∨ 5 < h.readings.length then 3 else if valid h = false then 1 else if 2000 < prod (h.start :: h.wet) then 3 else 0

def cooled (cool n : Int) (turned : Bool) : Int := if turned then n - n * cool / 100 else n
def stepH (size cool : Int) (turns : List Int) (i : Nat) (n w : Int) : Int := cooled cool n (turns.contains (i : Int)) + size * w / 10
/-- The heat behind k hours. -/
def heatAt (size cool : Int) (turns : List Int) (start : Int) (wet : List Int) : Nat → Int
  | 0 => start
  | k + 1 => stepH size cool turns k (heatAt size cool turns start wet k) (wet.getD k 0)
/-- The heats of ten hours; 0 behind the last one. -/
def heatsTo (size cool : Int) (turns : List Int) (start : Int) (wet : List Int) (n : Nat) : List Int :=
  (List.range 10).map fun j => if j < n then heatAt size cool turns start wet (j + 1) else 0
def heats (h : HeapD) (t : Int × List Int) (turns : List Int) : List Int := heatsTo h.size h.cool turns t.1 t.2 t.2.length

def rightR (x : Rdg) (l : List Int) : Bool := inB (l.getD x.1.toNat 0 - x.2.1) (-x.2.2) x.2.2

def rangeL (r : Rng) : List Int := (List.range (sizeR r).toNat).map fun (k : Nat) => r.1 + (k : Int)
def prodL : List Rng → List (List Int)
  | [] => [[]]
  | r :: rs => (rangeL r).flatMap fun x => (prodL rs).map (x :: ·)

/-! ### Turnings, one number after the other -/
def askT (last p : Int) (l : List Int) (k : Nat) : Bool := inB (l.getD k 0) ((p :: l).getD k 0 + 1) last

theorem turnsFrom_all (last : Int) : ∀ (l : List Int) (p : Int), turnsFrom last p l = (List.range l.length).all (askT last p l) := by
  intro l
  induction l with
  | nil => intro p; rfl
  | cons n l ih =>
    intro p
    rw [List.length_cons, List.range_succ_eq_map, List.all_cons, List.all_map, turnsFrom, ih n]
    congr 1

theorem askT_prev (last : Int) (h0 : 0 ≤ last) (l : List Int) : ∀ k, (∀ j, j < k → askT last (-1) l j = true) → k ≤ l.length → -1 ≤ ((-1 : Int) :: l).getD k 0 ∧ ((-1 : Int) :: l).getD k 0 ≤ last := by
  intro k
  induction k with
  | zero => intro _ _; simp; omega
  | succ k ih =>
    intro h hk
    have h1 := h k (by omega)
    have h2 := ih (fun j hj => h j (by omega)) (by omega)
    simp only [askT, inB, Bool.and_eq_true, decide_eq_true_eq] at h1
    rw [List.getD_cons_succ]
    omega

theorem all_of_any {α : Type} (l : List α) (p : α → Bool) : (if l.any (fun k => !p k) then false else true) = l.all p := by
  rw [List.all_eq_not_any_not]
  cases l.any (fun k => !p k) <;> rfl

/-! ### How many lists there are, counted up to a bound -/
def capStep (m : Int) (r : Rng) : Int := min (m * sizeR r) 2001
def capTo (l : List Rng) (k : Nat) : Int := (l.take k).foldl capStep 1

theorem capTo_succ (l : List Rng) (k : Nat) (hk : k < l.length) : capTo l (k + 1) = capStep (capTo l k) l[k] := by
  unfold capTo
  rw [List.take_succ_eq_append_getElem hk, List.foldl_append]
  rfl

theorem prod_pos (l : List Rng) (h : ∀ r ∈ l, 1 ≤ sizeR r) : 1 ≤ prod l := by
  induction l with
  | nil => simp [prod]
  | cons r l ih =>
    have h1 := h r (by simp)
    have h2 := ih (fun x hx => h x (by simp [hx]))
    show 1 ≤ sizeR r * prod l
    have := Int.mul_le_mul h1 h2 (by omega) (by omega)
    omega

theorem cap_fold (l : List Rng) (h : ∀ r ∈ l, 1 ≤ sizeR r) : ∀ m, 1 ≤ m → m ≤ 2001 → l.foldl capStep m = min (m * prod l) 2001 := by
  induction l with
  | nil => intro m h1 h2; simp [prod]; omega
  | cons r l ih =>
    intro m h1 h2
    have hr := h r (by simp)
    have hp := prod_pos l (fun x hx => h x (by simp [hx]))
    rw [List.foldl_cons]
    have hm : 1 ≤ m * sizeR r := by have := Int.mul_le_mul h1 hr (by omega) (by omega); omega
    rw [ih (fun x hx => h x (by simp [hx])) _ (by unfold capStep; omega) (by unfold capStep; omega)]
    show min (capStep m r * prod l) 2001 = min (m * (sizeR r * prod l)) 2001
    rw [← Int.mul_assoc]
    unfold capStep
    by_cases hc : m * sizeR r ≤ 2001
    · rw [Int.min_eq_left hc]
    · have h3 : 2001 ≤ m * sizeR r * prod l := by have := Int.mul_le_mul (show (2001 : Int) ≤ m * sizeR r by omega) hp (by omega) (by omega); omega
      have h4 : 2001 ≤ 2001 * prod l := by omega
      rw [Int.min_eq_right (show 2001 ≤ m * sizeR r by omega)]
      omega

theorem capTo_bd (l : List Rng) (h : ∀ r ∈ l, 1 ≤ sizeR r) (k : Nat) : 1 ≤ capTo l k ∧ capTo l k ≤ 2001 := by
  unfold capTo
  have ht : ∀ r ∈ l.take k, 1 ≤ sizeR r := fun r hr => h r (List.mem_of_mem_take hr)
  rw [cap_fold _ ht 1 (by omega) (by omega)]
  have := prod_pos _ ht
  omega

theorem capTo_all (l : List Rng) (h : ∀ r ∈ l, 1 ≤ sizeR r) : (2000 < capTo l l.length) ↔ 2000 < prod l := by
  unfold capTo
  rw [List.take_length, cap_fold _ h 1 (by omega) (by omega)]
  omega

theorem okR_size {r : Rng} {n : Int} (h : okR r n = true) : 0 ≤ r.1 ∧ r.1 ≤ r.2 ∧ r.2 ≤ n ∧ 1 ≤ sizeR r ∧ sizeR r ≤ n + 1 := by
  simp only [okR, Bool.and_eq_true, decide_eq_true_eq] at h
  unfold sizeR
  omega

/-! ### Heats -/
theorem cooled_bd {cool n : Int} (hc0 : 0 ≤ cool) (hc1 : cool ≤ 100) (hn : 0 ≤ n) (t : Bool) : 0 ≤ cooled cool n t ∧ cooled cool n t ≤ n := by
  unfold cooled
  cases t
  · simp; omega
  · simp only [if_true]
    have h1 : 0 ≤ n * cool := Int.mul_nonneg hn hc0
    have h2 : n * cool ≤ n * 100 := Int.mul_le_mul_of_nonneg_left hc1 hn
    omega

theorem heatAt_bd {size cool : Int} (turns : List Int) {start : Int} (wet : List Int) (hs0 : 0 ≤ size) (hs1 : size ≤ 20) (hc0 : 0 ≤ cool) (hc1 : cool ≤ 100) (h0 : 0 ≤ start) (h1 : start ≤ 500) (hw : ∀ x ∈ wet, 0 ≤ x ∧ x ≤ 20) :
    ∀ k : Nat, 0 ≤ heatAt size cool turns start wet k ∧ heatAt size cool turns start wet k ≤ 500 + 40 * k := by
  intro k
  induction k with
  | zero => simp [heatAt]; omega
  | succ k ih =>
    have hb := cooled_bd hc0 hc1 ih.1 (turns.contains (k : Int))
    have hx : 0 ≤ wet.getD k 0 ∧ wet.getD k 0 ≤ 20 := by
      by_cases hk : k < wet.length
      · rw [List.getD_eq_getElem?_getD, List.getElem?_eq_getElem hk]; exact hw _ (List.getElem_mem _)
      · rw [List.getD_eq_getElem?_getD, List.getElem?_eq_none (by omega)]; simp
    have h2 : 0 ≤ size * wet.getD k 0 := Int.mul_nonneg hs0 hx.1
    have h3 : size * wet.getD k 0 ≤ 20 * 20 := Int.mul_le_mul hs1 hx.2 hx.1 (by omega)
    simp only [heatAt, stepH]
    generalize wet.getD k 0 = x at *
    generalize size * x = y at *
    push_cast
    omega

theorem heatsTo_length (size cool : Int) (turns : List Int) (start : Int) (wet : List Int) (n : Nat) : (heatsTo size cool turns start wet n).length = 10 := by simp [heatsTo]

theorem heatsTo_succ (size cool : Int) (turns : List Int) (start : Int) (wet : List Int) (n : Nat) (hn : n < 10) :
    heatsTo size cool turns start wet (n + 1) = (heatsTo size cool turns start wet n).set n (heatAt size cool turns start wet (n + 1)) := by
  apply List.ext_getElem
  · simp [heatsTo]
  · intro i h1 h2
    have hi : i < 10 := by simpa [heatsTo] using h1
    simp only [heatsTo, List.getElem_map, List.getElem_range, List.getElem_set]
    by_cases e : n = i
    · subst e; simp
    · rw [if_neg e]
      by_cases h : i < n
      · rw [if_pos h, if_pos (by omega)]
      · rw [if_neg h, if_neg (by omega)]

theorem heats_bd {h : HeapD} {t : Int × List Int} (turns : List Int) (hs0 : 0 ≤ h.size) (hs1 : h.size ≤ 20) (hc0 : 0 ≤ h.cool) (hc1 : h.cool ≤ 100) (h0 : 0 ≤ t.1) (h1 : t.1 ≤ 500) (hw : ∀ x ∈ t.2, 0 ≤ x ∧ x ≤ 20) (hl : t.2.length ≤ 10) :
    ∀ x ∈ heats h t turns, 0 ≤ x ∧ x ≤ 900 := by
  intro x hx
  obtain ⟨j, hj, rfl⟩ := List.mem_map.1 hx
  have hj' : j < 10 := by simpa using hj
  split
  · have := heatAt_bd turns t.2 hs0 hs1 hc0 hc1 h0 h1 hw (j + 1)
    omega
  · omega

theorem ten_of {α : Type} {l : List α} (h : l.length = 10) : ∃ a b c d e f g i j k, l = [a, b, c, d, e, f, g, i, j, k] := by
  match l, h with
  | [a, b, c, d, e, f, g, i, j, k], _ => exact ⟨a, b, c, d, e, f, g, i, j, k, rfl⟩

/-- One number of each range. -/
def listedAt (h : HeapD) (t : Int × List Int) (i : Nat) : Bool := inB (t.2.getD i 0) (h.wet.getD i (0, 0)).1 (h.wet.getD i (0, 0)).2
def listedT (h : HeapD) (t : Int × List Int) : Bool :=
  !((t.2.length : Int) != h.last + 1) && (inB t.1 h.start.1 h.start.2 && (List.range h.wet.length).all (listedAt h t))

def playErr (h : HeapD) (t : Int × List Int) (turns : List Int) : Int :=
  if fault h ≠ 0 then fault h else if listedT h t = false ∨ isTurns h.last turns = false then 2 else 0
def playOut (h : HeapD) (t : Int × List Int) (turns : List Int) : List Int := if playErr h t turns = 0 then (heats h t turns).take (h.last + 1).toNat else []

/-- What a heap without an error is. -/
structure Sound (h : HeapD) : Prop where
  last0 : 0 ≤ h.last
  last9 : h.last ≤ 9
  size0 : 0 ≤ h.size
  size1 : h.size ≤ 20
  cool0 : 0 ≤ h.cool
  cool1 : h.cool ≤ 100
  die0 : 0 ≤ h.die
  burn0 : h.die ≤ h.burn
  burn1 : h.burn ≤ 500
  start0 : 0 ≤ h.start.1
  start1 : h.start.1 ≤ h.start.2
  start2 : h.start.2 ≤ 500
  wetLen : (h.wet.length : Int) = h.last + 1
  turns : isTurns h.last h.turns = true
  wet : ∀ r ∈ h.wet, 0 ≤ r.1 ∧ r.1 ≤ r.2 ∧ r.2 ≤ 20
  rdg : ∀ x ∈ h.readings, (0 ≤ x.1 ∧ x.1 ≤ h.last) ∧ (0 ≤ x.2.1 ∧ x.2.1 ≤ 1000) ∧ 0 ≤ x.2.2 ∧ x.2.2 ≤ 50
  rdgs : h.readings.length ≤ 5
  many : prod (h.start :: h.wet) ≤ 2000

theorem sound_of {h : HeapD} (hf : fault h = 0) : Sound h := by
  unfold fault at hf
  split at hf
  · omega
  · split at hf
    · omega
    · split at hf
      · omega
      · rename_i h1 h2 h3
        have h2' : valid h = true := by simpa using h2
        simp only [valid, numbersOk, okR, inB, Bool.and_eq_true, decide_eq_true_eq, List.all_eq_true] at h2'
        obtain ⟨⟨⟨⟨⟨⟨⟨⟨⟨a1, a2⟩, a3⟩, a4⟩, a5⟩, a6⟩, a7⟩, a8⟩, a9⟩, a10⟩ := h2'
        refine ⟨a1, by omega, a2.1, a2.2, a3.1, a3.2, a4, a5.1, a5.2, a6.1.1, a6.1.2, a6.2, a7, a8, fun r hr => ?_, fun x hx => ?_, by omega, by omega⟩
        · have := a9 r hr; exact ⟨this.1.1, this.1.2, this.2⟩
        · have := a10 x hx
          simp only [okRdg, inB, Bool.and_eq_true, decide_eq_true_eq] at this
          exact ⟨this.1.1, this.1.2, this.2⟩

theorem listed_of {h : HeapD} (hS : Sound h) {t : Int × List Int} (hl : listedT h t = true) : t.2.length = h.wet.length ∧ t.2.length ≤ 10 ∧ 0 ≤ t.1 ∧ t.1 ≤ 500 ∧ ∀ x ∈ t.2, 0 ≤ x ∧ x ≤ 20 := by
  simp only [listedT, Bool.and_eq_true, List.all_eq_true, bne, Bool.not_not, beq_iff_eq] at hl
  obtain ⟨h1, h2, h3⟩ := hl
  simp only [inB, Bool.and_eq_true, decide_eq_true_eq] at h2
  have hwl := hS.wetLen
  have := hS.last9
  have := hS.start0
  have := hS.start2
  refine ⟨by omega, by omega, by omega, by omega, fun x hx => ?_⟩
  obtain ⟨i, hi, rfl⟩ := List.getElem_of_mem hx
  have hi' : i < h.wet.length := by omega
  have := h3 i (by simpa using hi')
  simp only [listedAt, inB, Bool.and_eq_true, decide_eq_true_eq] at this
  rw [show t.2.getD i 0 = t.2[i] from by simp [hi], show h.wet.getD i (0, 0) = h.wet[i] from by simp [hi']] at this
  have hr := hS.wet _ (List.getElem_mem hi')
  omega

/-- Whether a truth is one of the heap. -/
def isTruth (h : HeapD) (t : Int × List Int) : Bool := listedT h t && h.readings.all (rightR · (heats h t h.turns))

end Cou
