/-
  A law's argument, opened: a note of the reference; how long a ledger's notes can be, by the form's own reach.
-/
import Derived.WalkKit
import Derived.WalkLawsBesides
import Derived.WalkSpells
import Derived.Outline
import Derived.Handy
import Derived.KernelRfl
import Derived.Lib.Hide
import Derived.SizedLaws
import Derived.Test.YtdjgikcnmokjkaaGreatOG
namespace Go.Proofs.YtdjgikcnmokjkaaGreat
open Go.RowKit Go.RG Go.SL Cou Go.Deep
set_option maxHeartbeats 400000
set_option maxRecDepth 100000

section
variable {H : Type} {enc : TypeId × Value → H} {P : Program} {W : World} {base b0 : Nat} {spare : Nat → Bool} {held : Bool} {r : Reach}

/-- A slice's length, by its weight. -/
theorem trod_len {t e : TypeId} (ht : P.underlying t = some (.slice e)) {fuel : Nat} {o : Option Addr} {n c : Nat} {x : DataW H × List MemPlace} (h : DataW.trod enc P W base spare held fuel t [.slice o n c] = some x) {B : Nat} (hB : ∀ y ∈ x.1.weights P t, y ≤ B) :
    n * P.bytesOf e ≤ B := by
  rcases open_slice ht h with ⟨hc, _⟩ | ⟨a, len, cap, m, k, D, Pl, hc, _, _, _, _, hx, _⟩
  · cases hc
    simp
  · cases hc
    subst hx
    have := hB ((n + (m - n)) * P.bytesOf e) (by simp [DataW.weights, ht])
    exact Nat.le_trans (Nat.mul_le_mul_right _ (Nat.le_add_right _ _)) this

theorem by_note : Tryz.prog.bytesOf 77 = 24 := by kernel_rfl

/-- A ledger's notes, by its weights. -/
theorem ledger_sized {l : LedgerD} {b : Value} {d : DataW H} {p : List MemPlace} {ox : Option Addr} {nx cx B : Nat}
    (hd : DataW.Trod enc Tryz.prog W base spare held 30 (lv l b (.slice ox nx cx)) d p) (hB : ∀ y ∈ d.weights Tryz.prog 30, y ≤ B) : nx * 24 ≤ B := by
  obtain ⟨fuel, hd⟩ := hd
  simp only [Value.cells] at hd
  obtain ⟨xs, n, _, hx, _, hxs, hf⟩ := DataW.trod_struct Tryz.underlying30 hd
  have hxs4 : xs.length = 4 := hxs
  match xs, hxs4 with
  | [x0, x1, x2, x3], _ =>
    have g3 := hf 3 _ rfl
    simp [c_notes] at g3
    have hx1 : d = .agg [x0.1, x1.1, x2.1, x3.1] := by
      have := congrArg (·.1) hx
      simpa using this
    have h3 : ∀ y ∈ x3.1.weights Tryz.prog 28, y ≤ B := fun y hy => hB y (by
      rw [hx1]
      simp [DataW.weights, DataW.weightsEach, Tryz.underlying30, hy])
    have k3 := trod_len Tryz.underlying28 g3 h3
    rw [by_note] at k3
    exact k3

/-- A note of the reference, opened. -/
theorem open_note {v : Value} {d : DataW H} {p : List MemPlace} (hok : Value.okWide Tryz.prog W r b0 77 v) (h : DataW.Trod enc Tryz.prog W base spare held 77 v d p) : ∃ y : Rdg, v = xv y := by
  simp only [Value.okWide, Tryz.underlying77] at hok
  obtain ⟨cs, rfl, _⟩ := hok
  obtain ⟨cs⟩ := cs
  obtain ⟨fuel, hd⟩ := h
  simp only [Value.cells] at hd
  obtain ⟨y, hy⟩ := trod_note Tryz.underlying77 Tryz.underlying27 Tryz.underlying3 c_note c_int c_range9 rfl rfl rfl rfl rfl rfl rfl rfl hd
  exact ⟨y, by rw [hy]⟩
end
end Go.Proofs.YtdjgikcnmokjkaaGreat
