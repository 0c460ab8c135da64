/-
  What is left out; the first wrong one. No program in sight.
-/
import Derived.Test.YtoibfafmnaooaaaM6
namespace Cou

def canL (h : HeapD) (out : List Int) : Bool := !(truthsL h out).isEmpty
def leaveS (h : HeapD) : Option (List Int) := shortL h.readings.length (canL h)
def leaveL (h : HeapD) : List Int := if fault h ≠ 0 then [] else (leaveS h).getD []

def upto (n : Nat) : List Int := (List.range n).map fun (i : Nat) => (i : Int)

theorem inc_range : ∀ (n f below : Nat), f + n ≤ below → Inc below f ((List.range' f n).map fun (i : Nat) => (i : Int)) := by
  intro n
  induction n with
  | zero => intro f below _; trivial
  | succ n ih =>
    intro f below h
    rw [List.range'_succ, List.map_cons]
    exact ⟨f, rfl, Nat.le_refl _, by omega, ih (f + 1) below (by omega)⟩

theorem allL_ne {h : HeapD} (hS : Sound h) : allL h ≠ [] := by
  intro he
  have h2 := prodL_count (h.start :: h.wet) (fun r hr => by
    rcases List.mem_cons.1 hr with rfl | hr
    · have := hS.start1; unfold sizeR; omega
    · have := hS.wet r hr; unfold sizeR; omega)
  have h3 := prod_pos (h.start :: h.wet) (fun r hr => by
    rcases List.mem_cons.1 hr with rfl | hr
    · have := hS.start1; unfold sizeR; omega
    · have := hS.wet r hr; unfold sizeR; omega)
  unfold allL at he
  rw [he] at h2
  simp at h2
  omega

theorem canL_all {h : HeapD} (hS : Sound h) : canL h (upto h.readings.length) = true := by
  obtain ⟨x, hx⟩ := List.exists_mem_of_ne_nil _ (allL_ne hS)
  have hm : toT x ∈ truthsL h (upto h.readings.length) := by
    unfold truthsL
    refine List.mem_map.2 ⟨x, List.mem_filter.2 ⟨hx, ?_⟩, rfl⟩
    unfold okT
    rw [List.all_eq_true]
    intro i hi
    have hi' : i < h.readings.length := by simpa using hi
    unfold okAt
    have : (upto h.readings.length).contains (i : Int) = true := by
      rw [List.contains_iff_mem]
      exact List.mem_map.2 ⟨i, by simpa using hi', rfl⟩
    rw [this]; rfl
  unfold canL
  cases hl : truthsL h (upto h.readings.length) with
  | nil => rw [hl] at hm; cases hm
  | cons a l => rfl

theorem leaveS_some {h : HeapD} (hS : Sound h) : ∃ c, leaveS h = some c := by
  cases he : leaveS h with
  | some c => exact ⟨c, rfl⟩
  | none =>
    have h1 := shortL_none he (upto h.readings.length) (by
      unfold upto
      rw [List.range_eq_range']
      exact inc_range _ 0 _ (by omega))
    rw [canL_all hS] at h1
    cases h1

def withR (h : HeapD) (k : Nat) : HeapD := { h with readings := h.readings.take k }
def wrongAt (h : HeapD) (i : Nat) : Bool := (truthsL (withR h (i + 1)) []).isEmpty
def firstS (h : HeapD) : Option Nat := (List.range h.readings.length).find? (wrongAt h)
def optV : Option Nat → Int
  | some i => (i : Int)
  | none => 0
def optE : Option Nat → Int
  | some _ => 0
  | none => 7
def firstV (h : HeapD) : Int := if fault h ≠ 0 then 0 else optV (firstS h)
def firstE (h : HeapD) : Int := if fault h ≠ 0 then fault h else optE (firstS h)

theorem withR_sound {h : HeapD} (hS : Sound h) (k : Nat) : Sound (withR h k) :=
  ⟨hS.last0, hS.last9, hS.size0, hS.size1, hS.cool0, hS.cool1, hS.die0, hS.burn0, hS.burn1, hS.start0, hS.start1, hS.start2, hS.wetLen, hS.turns, hS.wet,
    fun x hx => hS.rdg x (List.mem_of_mem_take hx), by have := hS.rdgs; simp [withR]; omega, hS.many⟩

theorem firstS_at {h : HeapD} {k : Nat} (hk : k < h.readings.length) (h1 : ∀ j, j < k → wrongAt h j = false) (h2 : wrongAt h k = true) : firstS h = some k := by
  unfold firstS
  rw [List.find?_eq_some_iff_getElem]
  refine ⟨h2, k, by simpa using hk, by simp, fun j hj => ?_⟩
  simp [h1 j hj]
theorem firstS_no {h : HeapD} (h1 : ∀ j, j < h.readings.length → wrongAt h j = false) : firstS h = none := by
  unfold firstS
  rw [List.find?_eq_none]
  intro x hx
  rw [h1 x (by simpa using hx)]
  simp

end Cou
