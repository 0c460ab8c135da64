/-
  The reference of chapter 4 in plain Lean, first part: how many truths there are, the truth with a number. No program in sight.
-/
import Derived.Test.YtoibfafmnaooaaaMath
namespace Cou

def manyStep (m : Int) (r : Rng) : Int := min 3000 (m * sizeR r)
def manyTo (h : HeapD) (k : Nat) : Int := (h.wet.take k).foldl manyStep (sizeR h.start)
def manyL (h : HeapD) : Int := manyTo h h.wet.length

theorem manyTo_succ (h : HeapD) (k : Nat) (hk : k < h.wet.length) : manyTo h (k + 1) = manyStep (manyTo h k) h.wet[k] := by
  unfold manyTo
  rw [List.take_succ_eq_append_getElem hk, List.foldl_append]
  rfl

theorem many_fold (l : List Rng) (h : ∀ r ∈ l, 1 ≤ sizeR r) : ∀ m, 1 ≤ m → m ≤ 3000 → l.foldl manyStep m = min 3000 (m * prod l) := by
  induction l with
  | nil => intro m h1 h2; simp [prod]; omega
  | cons r l ih =>
    intro m h1 h2
    have hr := h r (by simp)
    have hp := prod_pos l (fun x hx => h x (by simp [hx]))
    rw [List.foldl_cons]
    have hm : 1 ≤ m * sizeR r := by have := Int.mul_le_mul h1 hr (by omega) (by omega); omega
    rw [ih (fun x hx => h x (by simp [hx])) _ (by unfold manyStep; omega) (by unfold manyStep; omega)]
    show min 3000 (manyStep m r * prod l) = min 3000 (m * (sizeR r * prod l))
    rw [← Int.mul_assoc]
    unfold manyStep
    by_cases hc : m * sizeR r ≤ 3000
    · rw [Int.min_eq_right hc]
    · have h3 : 3000 ≤ m * sizeR r * prod l := by have := Int.mul_le_mul (show (3000 : Int) ≤ m * sizeR r by omega) hp (by omega) (by omega); omega
      have h4 : 3000 ≤ 3000 * prod l := by omega
      rw [Int.min_eq_left (show 3000 ≤ m * sizeR r by omega)]
      omega

/-- The ranges alone are valid. -/
structure RangesOk (h : HeapD) : Prop where
  start : 0 ≤ h.start.1 ∧ h.start.1 ≤ h.start.2 ∧ h.start.2 ≤ 500
  wet : ∀ r ∈ h.wet, 0 ≤ r.1 ∧ r.1 ≤ r.2 ∧ r.2 ≤ 20

theorem Sound.ranges {h : HeapD} (hS : Sound h) : RangesOk h := ⟨⟨hS.start0, hS.start1, hS.start2⟩, hS.wet⟩
theorem RangesOk.sz {h : HeapD} (hR : RangesOk h) : ∀ r ∈ h.wet, 1 ≤ sizeR r := fun r hr => by have := hR.wet r hr; unfold sizeR; omega
theorem RangesOk.sz0 {h : HeapD} (hR : RangesOk h) : 1 ≤ sizeR h.start ∧ sizeR h.start ≤ 501 := by have := hR.start; unfold sizeR; omega

theorem manyTo_bd {h : HeapD} (hR : RangesOk h) (k : Nat) : 1 ≤ manyTo h k ∧ manyTo h k ≤ 3000 := by
  unfold manyTo
  have ht : ∀ r ∈ h.wet.take k, 1 ≤ sizeR r := fun r hr => hR.sz r (List.mem_of_mem_take hr)
  have h0 := hR.sz0
  rw [many_fold _ ht _ h0.1 (by omega)]
  have := prod_pos _ ht
  have := Int.mul_le_mul h0.1 this (by omega) (by omega)
  omega

theorem manyL_eq {h : HeapD} (hR : RangesOk h) : manyL h = min 3000 (prod (h.start :: h.wet)) := by
  unfold manyL manyTo
  have h0 := hR.sz0
  rw [List.take_length, many_fold _ hR.sz _ h0.1 (by omega)]
  rfl
theorem manyL_gt {h : HeapD} (hR : RangesOk h) : 2000 < manyL h ↔ 2000 < prod (h.start :: h.wet) := by rw [manyL_eq hR]; omega
theorem manyL_sound {h : HeapD} (hS : Sound h) : manyL h = prod (h.start :: h.wet) ∧ 1 ≤ manyL h ∧ manyL h ≤ 2000 := by
  have := manyL_eq hS.ranges
  have := hS.many
  have := manyTo_bd hS.ranges h.wet.length
  unfold manyL at *
  omega

/-! ### The truth with a number -/
def nthW : List Rng → Int → List Int
  | [], _ => []
  | r :: rs, n => (r.1 + n % sizeR r) :: nthW rs (n / sizeR r)
def restN (l : List Rng) (n : Int) : Int := l.foldl (fun n r => n / sizeR r) n
def nthT (h : HeapD) (n : Int) : Int × List Int := (h.start.1 + n % sizeR h.start, nthW h.wet (n / sizeR h.start))

theorem nthW_len : ∀ (l : List Rng) (n : Int), (nthW l n).length = l.length := by
  intro l
  induction l with
  | nil => intro n; rfl
  | cons r l ih => intro n; simp [nthW, ih]
theorem nthW_snoc (r : Rng) : ∀ (l : List Rng) (n : Int), nthW (l ++ [r]) n = nthW l n ++ [r.1 + restN l n % sizeR r] := by
  intro l
  induction l with
  | nil => intro n; rfl
  | cons x l ih => intro n; simp only [List.cons_append, nthW, ih]; rfl
theorem restN_snoc (r : Rng) (l : List Rng) (n : Int) : restN (l ++ [r]) n = restN l n / sizeR r := by simp [restN]

theorem restN_bd : ∀ (l : List Rng) (n : Int), (∀ r ∈ l, 1 ≤ sizeR r) → 0 ≤ n → 0 ≤ restN l n ∧ restN l n ≤ n := by
  intro l
  induction l with
  | nil => intro n _ h; exact ⟨h, Int.le_refl _⟩
  | cons r l ih =>
    intro n hs h
    have hr := hs r (by simp)
    have h1 : 0 ≤ n / sizeR r := Int.ediv_nonneg h (by omega)
    have h2 : n / sizeR r ≤ n := Int.ediv_le_self _ h
    have := ih (n / sizeR r) (fun x hx => hs x (by simp [hx])) h1
    show 0 ≤ restN l (n / sizeR r) ∧ restN l (n / sizeR r) ≤ n
    omega

theorem mem_rangeL {r : Rng} {x : Int} : x ∈ rangeL r ↔ r.1 ≤ x ∧ x ≤ r.2 := by
  unfold rangeL sizeR
  rw [List.mem_map]
  constructor
  · rintro ⟨k, hk, rfl⟩
    have := List.mem_range.1 hk
    omega
  · rintro ⟨h1, h2⟩
    exact ⟨(x - r.1).toNat, List.mem_range.2 (by omega), by omega⟩

theorem nthW_mem : ∀ (l : List Rng) (n : Int), (∀ r ∈ l, 1 ≤ sizeR r) → nthW l n ∈ prodL l := by
  intro l
  induction l with
  | nil => intro n _; simp [nthW, prodL]
  | cons r l ih =>
    intro n hs
    have hr := hs r (by simp)
    simp only [nthW, prodL, List.mem_flatMap, List.mem_map]
    have h1 := Int.emod_nonneg n (show sizeR r ≠ 0 by omega)
    have h2 := Int.emod_lt_of_pos n (show 0 < sizeR r by omega)
    refine ⟨r.1 + n % sizeR r, mem_rangeL.2 ?_, _, ih _ (fun x hx => hs x (by simp [hx])), rfl⟩
    generalize n % sizeR r = m at *
    unfold sizeR at h2
    omega

theorem nthW_all : ∀ (l : List Rng), (∀ r ∈ l, 1 ≤ sizeR r) → ∀ x ∈ prodL l, ∃ n, 0 ≤ n ∧ n < prod l ∧ nthW l n = x := by
  intro l
  induction l with
  | nil => intro _ x hx; exact ⟨0, by omega, by simp [prod], by simpa [prodL, nthW, eq_comm] using hx⟩
  | cons r l ih =>
    intro hs x hx
    have hr := hs r (by simp)
    simp only [prodL, List.mem_flatMap, List.mem_map] at hx
    obtain ⟨y, hy, s, hsm, rfl⟩ := hx
    obtain ⟨m, hm0, hm1, rfl⟩ := ih (fun x hx => hs x (by simp [hx])) s hsm
    have hy := mem_rangeL.1 hy
    have hsz : y - r.1 < sizeR r := by unfold sizeR; omega
    have hmul : 0 ≤ sizeR r * m := Int.mul_nonneg (by omega) hm0
    refine ⟨(y - r.1) + sizeR r * m, by omega, ?_, ?_⟩
    · show _ < sizeR r * prod l
      have : sizeR r * (m + 1) ≤ sizeR r * prod l := Int.mul_le_mul_of_nonneg_left (by omega) (by omega)
      rw [Int.mul_add, Int.mul_one] at this
      omega
    · have e1 : ((y - r.1) + sizeR r * m) % sizeR r = y - r.1 := by rw [Int.add_mul_emod_self_left]; exact Int.emod_eq_of_lt (by omega) hsz
      have e2 : ((y - r.1) + sizeR r * m) / sizeR r = m := by rw [Int.add_mul_ediv_left _ _ (by omega), Int.ediv_eq_zero_of_lt (by omega) hsz]; omega
      simp only [nthW, e1, e2]
      rw [show r.1 + (y - r.1) = y from by omega]

theorem allSz {h : HeapD} (hS : Sound h) : ∀ r ∈ h.start :: h.wet, 1 ≤ sizeR r := fun r hr => by
  rcases List.mem_cons.1 hr with rfl | hr
  · exact hS.ranges.sz0.1
  · exact hS.ranges.sz r hr

/-- The truths without readings, by their numbers. -/
theorem nthT_mem {h : HeapD} (hS : Sound h) (n : Int) : ∃ x ∈ allL h, toT x = nthT h n := ⟨_, nthW_mem (h.start :: h.wet) n (allSz hS), rfl⟩
theorem nthT_all {h : HeapD} (hS : Sound h) {x : List Int} (hx : x ∈ allL h) : ∃ n, 0 ≤ n ∧ n < manyL h ∧ nthT h n = toT x := by
  obtain ⟨n, h0, h1, rfl⟩ := nthW_all _ (allSz hS) x hx
  exact ⟨n, h0, by rw [(manyL_sound hS).1]; exact h1, rfl⟩

theorem nthT_listed {h : HeapD} (hS : Sound h) (n : Int) : listedT h (nthT h n) = true := by
  obtain ⟨x, hx, he⟩ := nthT_mem hS n
  obtain ⟨hlen, hb⟩ := mem_prodL _ x hx
  rw [← he]
  obtain ⟨s, rest, rfl, hl, _⟩ := list_split hS hx
  have h0 := hb 0 (by simp)
  simp only [List.getD_cons_zero] at h0
  simp only [listedT, toT, List.headD_cons, List.tail_cons, Bool.and_eq_true, List.all_eq_true]
  refine ⟨?_, ?_, fun i hi => ?_⟩
  · have := hS.wetLen
    simp only [bne, Bool.not_not, beq_iff_eq]
    omega
  · simp [inB, h0]
  · have := hb (i + 1) (by simpa using hi)
    simp only [List.getD_cons_succ] at this
    simp [listedAt, inB]
    exact this

end Cou
