/-
  A law's argument, opened: a truth of the reference; a list of numbers.
-/
import Derived.WalkKit
import Derived.WalkLawsBesides
import Derived.WalkSpells
import Derived.Outline
import Derived.Handy
import Derived.KernelRfl
import Derived.Lib.Hide
import Derived.Test.YtoibfafmnaooaaaO1
namespace Go.Proofs.Ytoibfafmnaooaaa
open Go.RowKit Go.RG Go.SL Cou Go.Deep
set_option maxHeartbeats 400000
set_option maxRecDepth 100000

section
variable {H : Type} {enc : TypeId × Value → H} {W : World} {base b0 : Nat} {spare : Nat → Bool} {held : Bool} {r : Reach}

theorem c_truth : Try.prog.cellsOf 66 = 2 := by kernel_rfl

/-- A list of numbers, opened. -/
theorem open_list {v : Value} {d : DataW H} {p : List MemPlace} (hok : Value.okWide Try.prog W r b0 25 v) (h : DataW.Trod enc Try.prog W base spare held 25 v d p) : ∃ l : List Int, IntsAt W v l := by
  have hok' : Cell.ok Try.prog W r b0 25 v := by
    simpa [Value.okWide, Try.underlying25, Cell.okWide] using hok
  obtain ⟨o, n, c, rfl⟩ : ∃ o n c, v = .slice o n c := by
    cases v <;> simp_all [Cell.ok, Try.underlying25]
  obtain ⟨fuel, hf⟩ := h
  exact open_ints0 hok' hf

/-- A truth of the reference, opened. -/
theorem open_truth {v : Value} {d : DataW H} {p : List MemPlace} (hok : Value.okWide Try.prog W r b0 66 v) (h : DataW.Trod enc Try.prog W base spare held 66 v d p) :
    ∃ (t : Int × List Int) (u : Value), v = .agg #[iv t.1, u] ∧ IntsAt W u t.2 := by
  simp only [Value.okWide, Try.underlying66] at hok
  obtain ⟨cs, rfl, hsz, ts, hts, _, hcell⟩ := hok
  rw [show Try.prog.cellTypes Try.prog.depth 66 = some [3, 25] from by kernel_rfl] at hts
  cases hts
  rw [c_truth] at hsz
  obtain ⟨cs⟩ := cs
  obtain ⟨fuel, hd⟩ := h
  simp only [Value.cells] at hd
  simp only [List.size_toArray] at hsz
  obtain ⟨xs, n, _, _, _, hxs, hf⟩ := DataW.trod_struct Try.underlying66 hd
  have hxs2 : xs.length = 2 := hxs
  match cs, hsz, xs, hxs2 with
  | [v0, v1], _, [x0, x1], _ =>
    have c0 := hcell 0 v0 rfl
    have c1 := hcell 1 v1 rfl
    simp only [List.length_cons, List.length_nil, Nat.reduceAdd, Nat.reduceMod, List.getElem?_cons_zero, List.getElem?_cons_succ, Option.some.injEq, exists_eq_left'] at c0 c1
    obtain ⟨n0, rfl⟩ := okWide_i64 c0
    have g1 := hf 1 _ rfl
    simp [c_ints] at g1
    obtain ⟨l, hl⟩ := open_ints0 (r := r) (b0 := b0) (by simpa [Cell.okWide, Try.underlying25] using c1) g1
    exact ⟨(n0, l), v1, rfl, hl⟩
end
end Go.Proofs.Ytoibfafmnaooaaa
