/-
  A law's argument, opened: a list of numbers of 16 bits.
-/
import Derived.WalkKit
import Derived.WalkLawsBesides
import Derived.WalkSpells
import Derived.Outline
import Derived.Handy
import Derived.KernelRfl
import Derived.Lib.Hide
import Derived.Test.YtdjgikcnmokjkaaGreatOI
namespace Go.Proofs.YtdjgikcnmokjkaaGreat
open Go.RowKit Go.RG Go.SL Cou Go.Deep
set_option maxHeartbeats 400000
set_option maxRecDepth 100000

def wordCells (l : List (Fin 65536)) : List Value := l.map fun x => Value.int .u16 (x.val : Int)
def WordsAt (W : World) (v : Value) (l : List (Fin 65536)) : Prop := SlAt 1 W v l.length (wordCells l)

theorem wordCells_flat (l : List (Fin 65536)) : wordCells l = l.flatMap fun x => [Value.int .u16 (x.val : Int)] := by
  induction l with
  | nil => rfl
  | cons x l ih => simp only [wordCells, List.map_cons, List.flatMap_cons, List.singleton_append] at ih ⊢; rw [ih]

theorem WordsAt.cell {w : World} {o : Option Addr} {n c : Nat} {l : List (Fin 65536)} (h : SlAt 1 w (.slice o n c) n (wordCells l)) {k : Nat} (hk : k < l.length) :
    ∃ b off, o = some ⟨b, off, none⟩ ∧ b < w.heap.size ∧ w.cell? ⟨b, off + k, none⟩ = some (.int .u16 (l[k].val : Int)) := by
  obtain ⟨hl, o', c', hv, h1, h2, h3, h4⟩ := h
  cases hv
  have hlen : (wordCells l).length = l.length := by simp [wordCells]
  cases o with
  | none =>
    have := h3 rfl
    omega
  | some a =>
    obtain ⟨hs, hc⟩ := h4 a rfl
    obtain ⟨b, off, sp⟩ := a
    simp only at hs hc
    subst hs
    have := hc k (.int .u16 (l[k].val : Int)) (by simp [wordCells, hk])
    exact ⟨b, off, rfl, World.block_lt_of_cell? w _ this, this⟩

section
variable {H : Type} {enc : TypeId × Value → H} {W : World} {base b0 : Nat} {spare : Nat → Bool} {held : Bool} {r : Reach}

theorem c_u16 : Tryz.prog.cellsOf 68 = 1 := by kernel_rfl

/-- A list of numbers of 16 bits, opened. -/
theorem open_words {v : Value} {d : DataW H} {p : List MemPlace} (hok : Value.okWide Tryz.prog W r b0 67 v) (h : DataW.Trod enc Tryz.prog W base spare held 67 v d p) : ∃ l : List (Fin 65536), WordsAt W v l := by
  have hok' : Cell.ok Tryz.prog W r b0 67 v := by
    simpa [Value.okWide, Tryz.underlying67, Cell.okWide] using hok
  obtain ⟨o, n, c, rfl⟩ : ∃ o n c, v = .slice o n c := by
    cases v <;> simp_all [Cell.ok, Tryz.underlying67]
  obtain ⟨fuel, hf⟩ := h
  obtain ⟨l, hl⟩ := open_rows (fun x : Fin 65536 => [Value.int .u16 (x.val : Int)]) 1 (by omega) (fun _ => rfl) Tryz.underlying67 c_u16
    (fun fuel cs x hx => by
      obtain ⟨n, hn, _, hwf⟩ := DataW.trod_int Tryz.underlying68 hx
      obtain ⟨b1, b2⟩ := bounds_u16 hwf
      exact ⟨⟨n.toNat, by omega⟩, by rw [hn]; simp only; rw [Int.toNat_of_nonneg b1]⟩) hok' hf
  exact ⟨l, by unfold WordsAt; rw [wordCells_flat]; exact hl⟩
end
end Go.Proofs.YtdjgikcnmokjkaaGreat
