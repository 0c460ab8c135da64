/-
  Lemmas on a slice of the call's own that grows in a loop, beside boxes that are kept. Over any program.
-/
import Derived.WalkKit
import Derived.WalkLawsBesides
import Derived.WalkSpells
import Derived.Outline
import Derived.Handy
import Derived.KernelRfl
import Derived.Lib.Hide
import Derived.Test.YtoibfafmnaooaaaW21
namespace Go.Proofs.Ytoibfafmnaooaaa
open Go.RowKit Go.RG Go.SL Go.Shelf Cou
set_option maxHeartbeats 400000

theorem gworld {P : Program} {c : Code} {Q : Exit → Act → World → Prop} {a : Act} {W : World} (h : ∀ W', W' = W → Code.wp P c Q a W') : Code.wp P c Q a W := h W rfl

/-- append onto a slice of the call's own. -/
theorem ap_push0 {w W W5 W6 : World} {base size n n' : Nat} {e : TypeId} {v v' : Value} {xs xs' : List Value} (hB : Below w.heap.size w W) (hown : W.ownsRow base e size v n xs) (hE : Ext [] W W5)
    (_hown6 : W6.ownsRow base e size v' n' xs') (hgr : W5.grownBy W6 v.ownBlock) (hbase : w.heap.size ≤ base) (hsz : base ≤ W.heap.size) :
    Below w.heap.size w W6 ∧ base ≤ W6.heap.size ∧ ∀ c, c < base → W6.heap[c]? = W.heap[c]? := by
  have hk : ∀ c, c < base → W6.heap[c]? = W.heap[c]? := fun c hc => by
    have h5 := hE.size
    refine (hgr.block c (by omega) (fun e1 => ?_)).trans (hE.block c (by omega) (by simp))
    have := (owns_ge hown c e1.symm).1
    omega
  have h5 := hE.size
  have h6 := hgr.size
  refine ⟨⟨?_, ?_, ?_, ?_, fun c hc => ?_⟩, by omega, hk⟩
  · exact hgr.os.trans (hE.os.trans hB.os)
  · exact hgr.tape.trans (hE.tape.trans hB.tape)
  · exact hgr.output.trans (hE.output.trans hB.output)
  · have := hB.size; omega
  · exact (hk c (by omega)).trans (hB.block c hc)

/-- append onto a slice of the call's own that lies in a box. -/
theorem ap_push {w W W5 W6 : World} {base size n n' b i : Nat} {e t : TypeId} {v v' u : Value} {xs xs' : List Value} {cs : Array Value} (hB : Below w.heap.size w W) (hown : W.ownsRow base e size v n xs) (hE : Ext [] W W5)
    (hown6 : W6.ownsRow base e size v' n' xs') (hgr : W5.grownBy W6 v.ownBlock) (hsz : base ≤ W.heap.size) (hbb : b < base) (hwb : w.heap.size ≤ b) (hblk : W.heap[b]? = some (.cells cs t (0, 0))) :
    Below w.heap.size w (W6.setCell ⟨b, i, none⟩ u) ∧ base ≤ (W6.setCell ⟨b, i, none⟩ u).heap.size ∧ (W6.setCell ⟨b, i, none⟩ u).ownsRow base e size v' n' xs' ∧
      (W6.setCell ⟨b, i, none⟩ u).heap[b]? = some (.cells (cs.setIfInBounds i u) t (0, 0)) ∧ ∀ c, c < base → c ≠ b → (W6.setCell ⟨b, i, none⟩ u).heap[c]? = W.heap[c]? := by
  obtain ⟨h1, h2, h3⟩ := ap_push0 hB hown hE hown6 hgr (by omega) hsz
  refine ⟨h1.setCell hwb u, by simpa [World.setCell] using h2, owns_ext (Ms := [b]) hown6 (ext_set W6 ⟨b, i, none⟩ u) (by simpa using hbb), set_block ((h3 b hbb).trans hblk) u, fun c hc hne => ?_⟩
  exact (Below.heap_setCell _ _ _ _ hne).trans (h3 c hc)

/-- The cells of a block, read. -/
theorem cells_of_block {W : World} {b : Nat} {cs : Array Value} {t : TypeId} (h : W.heap[b]? = some (.cells cs t (0, 0))) : (∀ i, W.cell? ⟨b, i, none⟩ = cs[i]?) ∧ (∀ i, W.frozen? ⟨b, i, none⟩ = false) ∧ b < W.heap.size :=
  ⟨fun i => by simp [World.cell?, h], fun i => frozen_of_block h i, (Array.getElem?_eq_some_iff.1 h).1⟩

theorem contains_at {l : List Int} {n : Int} {k : Nat} (hk : k < l.length) (h : l.getD k 0 = n) : l.contains n = true := by
  have e : l.getD k 0 = l[k] := by simp [List.getD, hk]
  rw [e] at h
  rw [← h]
  simp
theorem contains_not {l : List Int} {n : Int} (h : ∀ j, j < l.length → l.getD j 0 ≠ n) : l.contains n = false := by
  cases hc : l.contains n
  · rfl
  · have hm : n ∈ l := by simpa using hc
    obtain ⟨k, hk, rfl⟩ := List.getElem_of_mem hm
    exact absurd (by simp [List.getD, hk]) (h k hk)

theorem pairCells_snoc (R : List Rng) (r : Rng) : pairCells (R ++ [r]) = pairCells R ++ pairCells [r] := by simp [pairCells]
theorem tripleCells_snoc (R : List Rdg) (r : Rdg) : tripleCells (R ++ [r]) = tripleCells R ++ tripleCells [r] := by simp [tripleCells]

end Go.Proofs.Ytoibfafmnaooaaa
