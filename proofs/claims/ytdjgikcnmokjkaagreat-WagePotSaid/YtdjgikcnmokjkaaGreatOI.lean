/-
  A law's argument, opened: a list of numbers; a truth of the reference.
-/
import Derived.WalkKit
import Derived.WalkLawsBesides
import Derived.WalkSpells
import Derived.Outline
import Derived.Handy
import Derived.KernelRfl
import Derived.Lib.Hide
import Derived.Test.YtdjgikcnmokjkaaGreatOG
namespace Go.Proofs.YtdjgikcnmokjkaaGreat
open Go.RowKit Go.RG Go.SL Cou Go.Deep
set_option maxHeartbeats 400000
set_option maxRecDepth 100000

section
variable {H : Type} {enc : TypeId × Value → H} {P : Program} {W : World} {base b0 : Nat} {spare : Nat → Bool} {held : Bool} {r : Reach}

theorem open_ints_at {t e : TypeId} (ht : P.underlying t = some (.slice e)) (he : P.underlying e = some (.int .i64)) (hk : P.cellsOf e = 1) {v : Value} (hok : Cell.ok P W r b0 t v) {fuel : Nat} {x : DataW H × List MemPlace}
    (h : DataW.trod enc P W base spare held fuel t [v] = some x) : ∃ l : List Int, IntsAt W v l := by
  obtain ⟨l, hl⟩ := open_rows (fun n : Int => [Value.int .i64 n]) 1 (by omega) (fun _ => rfl) ht hk (fun fuel cs x hx => trod_i64 he hx) hok h
  have e : ∀ l : List Int, intCells l = l.flatMap fun n => [Value.int .i64 n] := by
    intro l
    induction l with
    | nil => rfl
    | cons a l ih => simp only [intCells, List.map_cons, List.flatMap_cons, List.singleton_append] at ih ⊢; rw [ih]
  exact ⟨l, by unfold IntsAt; rw [e]; exact hl⟩
theorem c_ints : Tryz.prog.cellsOf 52 = 1 := by kernel_rfl
theorem open_ints0 {v : Value} (hok : Cell.ok Tryz.prog W r b0 52 v) {fuel : Nat} {x : DataW H × List MemPlace} (h : DataW.trod enc Tryz.prog W base spare held fuel 52 [v] = some x) : ∃ l : List Int, IntsAt W v l :=
  open_ints_at Tryz.underlying52 Tryz.underlying3 c_int hok h

/-- A list of numbers, opened. -/
theorem open_intlist {v : Value} {d : DataW H} {p : List MemPlace} (hok : Value.okWide Tryz.prog W r b0 52 v) (h : DataW.Trod enc Tryz.prog W base spare held 52 v d p) : ∃ l : List Int, IntsAt W v l := by
  have hok' : Cell.ok Tryz.prog W r b0 52 v := by
    simpa [Value.okWide, Tryz.underlying52, Cell.okWide] using hok
  obtain ⟨o, n, c, rfl⟩ : ∃ o n c, v = .slice o n c := by
    cases v <;> simp_all [Cell.ok, Tryz.underlying52]
  obtain ⟨fuel, hf⟩ := h
  exact open_ints0 hok' hf

theorem c_truth : Tryz.prog.cellsOf 70 = 2 := by kernel_rfl
/-- A truth of the reference, opened. -/
theorem open_truth {v : Value} {d : DataW H} {p : List MemPlace} (hok : Value.okWide Tryz.prog W r b0 70 v) (h : DataW.Trod enc Tryz.prog W base spare held 70 v d p) :
    ∃ (a b : List Int) (u x : Value), v = .agg #[u, x] ∧ IntsAt W u a ∧ IntsAt W x b := by
  simp only [Value.okWide, Tryz.underlying70] at hok
  obtain ⟨cs, rfl, hsz, ts, hts, _, hcell⟩ := hok
  rw [show Tryz.prog.cellTypes Tryz.prog.depth 70 = some [52, 52] from by kernel_rfl] at hts
  cases hts
  rw [c_truth] at hsz
  obtain ⟨cs⟩ := cs
  obtain ⟨fuel, hd⟩ := h
  simp only [Value.cells] at hd
  simp only [List.size_toArray] at hsz
  obtain ⟨xs, n, _, _, _, hxs, hf⟩ := DataW.trod_struct Tryz.underlying70 hd
  have hxs2 : xs.length = 2 := hxs
  match cs, hsz, xs, hxs2 with
  | [v0, v1], _, [x0, x1], _ =>
    have c0 := hcell 0 v0 rfl
    have c1 := hcell 1 v1 rfl
    simp only [List.length_cons, List.length_nil, Nat.reduceAdd, Nat.reduceMod, List.getElem?_cons_zero, List.getElem?_cons_succ, Option.some.injEq, exists_eq_left'] at c0 c1
    have g0 := hf 0 _ rfl
    have g1 := hf 1 _ rfl
    simp [c_ints] at g0 g1
    obtain ⟨l, hl⟩ := open_ints0 (r := r) (b0 := b0) (by simpa [Cell.okWide, Tryz.underlying52] using c0) g0
    obtain ⟨m, hm⟩ := open_ints0 (r := r) (b0 := b0) (by simpa [Cell.okWide, Tryz.underlying52] using c1) g1
    exact ⟨l, m, v0, v1, rfl, hl, hm⟩
end
end Go.Proofs.YtdjgikcnmokjkaaGreat
