/-
  A law's argument, opened: a reading of the reference; how long a heap's lists can be, by the form's own reach.
-/
import Derived.WalkKit
import Derived.WalkLawsBesides
import Derived.WalkSpells
import Derived.Outline
import Derived.Handy
import Derived.KernelRfl
import Derived.Lib.Hide
import Derived.SizedLaws
import Derived.Test.YtoibfafmnaooaaaO1
namespace Go.Proofs.Ytoibfafmnaooaaa
open Go.RowKit Go.RG Go.SL Cou Go.Deep
set_option maxHeartbeats 400000
set_option maxRecDepth 100000

section
variable {H : Type} {enc : TypeId × Value → H} {P : Program} {W : World} {base b0 : Nat} {spare : Nat → Bool} {held : Bool} {r : Reach}

/-- A slice's length, by its weight. -/
theorem trod_len {t e : TypeId} (ht : P.underlying t = some (.slice e)) {fuel : Nat} {o : Option Addr} {n c : Nat} {x : DataW H × List MemPlace} (h : DataW.trod enc P W base spare held fuel t [.slice o n c] = some x) {B : Nat} (hB : ∀ y ∈ x.1.weights P t, y ≤ B) :
    n * P.bytesOf e ≤ B := by
  rcases open_slice ht h with ⟨hc, _⟩ | ⟨a, len, cap, m, k, D, Pl, hc, _, _, _, _, hx, _⟩
  · cases hc
    simp
  · cases hc
    subst hx
    have := hB ((n + (m - n)) * P.bytesOf e) (by simp [DataW.weights, ht])
    exact Nat.le_trans (Nat.mul_le_mul_right _ (Nat.le_add_right _ _)) this

theorem by_range : Try.prog.bytesOf 23 = 16 := by kernel_rfl
theorem by_reading : Try.prog.bytesOf 79 = 24 := by kernel_rfl

/-- A heap's lists, by its weights. -/
theorem heap_sized {h : HeapD} {b : Value} {d : DataW H} {p : List MemPlace} {ow ox : Option Addr} {nw cw nx cx B : Nat}
    (hd : DataW.Trod enc Try.prog W base spare held 28 (hv h (.slice ow nw cw) b (.slice ox nx cx)) d p) (hB : ∀ y ∈ d.weights Try.prog 28, y ≤ B) : nw * 16 ≤ B ∧ nx * 24 ≤ B := by
  obtain ⟨fuel, hd⟩ := hd
  simp only [Value.cells] at hd
  obtain ⟨xs, n, _, hx, _, hxs, hf⟩ := DataW.trod_struct Try.underlying28 hd
  have hxs9 : xs.length = 9 := hxs
  match xs, hxs9 with
  | [x0, x1, x2, x3, x4, x5, x6, x7, x8], _ =>
    have g6 := hf 6 _ rfl
    have g8 := hf 8 _ rfl
    simp [c_ranges, c_readings] at g6 g8
    have hx1 : d = .agg [x0.1, x1.1, x2.1, x3.1, x4.1, x5.1, x6.1, x7.1, x8.1] := by
      have := congrArg (·.1) hx
      simpa using this
    have h6 : ∀ y ∈ x6.1.weights Try.prog 24, y ≤ B := fun y hy => hB y (by
      rw [hx1]
      simp [DataW.weights, DataW.weightsEach, Try.underlying28, hy])
    have h8 : ∀ y ∈ x8.1.weights Try.prog 26, y ≤ B := fun y hy => hB y (by
      rw [hx1]
      simp [DataW.weights, DataW.weightsEach, Try.underlying28, hy])
    have k6 := trod_len Try.underlying24 g6 h6
    have k8 := trod_len Try.underlying26 g8 h8
    rw [by_range] at k6
    rw [by_reading] at k8
    exact ⟨k6, k8⟩

/-- A reading of the reference, opened. -/
theorem open_reading {v : Value} {d : DataW H} {p : List MemPlace} (hok : Value.okWide Try.prog W r b0 79 v) (h : DataW.Trod enc Try.prog W base spare held 79 v d p) : ∃ y : Rdg, v = xv y := by
  simp only [Value.okWide, Try.underlying79] at hok
  obtain ⟨cs, rfl, _⟩ := hok
  obtain ⟨cs⟩ := cs
  obtain ⟨fuel, hd⟩ := h
  simp only [Value.cells] at hd
  obtain ⟨y, hy⟩ := trod_triple Try.underlying79 Try.underlying3 c_reading c_int rfl rfl rfl rfl rfl rfl hd
  exact ⟨y, by rw [hy]⟩
end
end Go.Proofs.Ytoibfafmnaooaaa
