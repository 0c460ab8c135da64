/-
  Contracts of package couch, sixteenth part: shortest.
-/
import Derived.WalkKit
import Derived.WalkLawsBesides
import Derived.WalkSpells
import Derived.Outline
import Derived.Handy
import Derived.KernelRfl
import Derived.Lib.Hide
import Derived.Test.YtoibfafmnaooaaaW16
namespace Go.Proofs.Ytoibfafmnaooaaa
open Go.RowKit Go.RG Go.SL Go.Shelf Cou
set_option maxHeartbeats 400000
set_option maxRecDepth 10000

/-- A list is left alone by whatever turns blocks that hold no numbers. -/
theorem IntsAt.ext_not {w w' : World} {v : Value} {l : List Int} (h : IntsAt w v l) {Ms : List Nat} (hE : Ext Ms w w') (hM : ∀ x ∈ Ms, ∀ o n, w.cell? ⟨x, o, none⟩ ≠ some (.int .i64 n)) : IntsAt w' v l := by
  obtain ⟨hl, o, c, rfl, h1, h2, h3, h4⟩ := h
  refine ⟨hl, o, c, rfl, h1, h2, h3, fun a ha => ?_⟩
  obtain ⟨hs, hc⟩ := h4 a ha
  obtain ⟨b, off, sp⟩ := a
  simp only at hs hc
  subst hs
  refine ⟨rfl, fun j u hj => ?_⟩
  have hcell := hc j u hj
  have hlt := World.block_lt_of_cell? w _ hcell
  rw [hE.cell b _ hlt (fun hm => by
    obtain ⟨n, _, rfl⟩ := List.mem_map.1 (List.mem_of_getElem? hj)
    exact hM b hm _ _ hcell)]
  exact hcell

/-- What add works with: found's cell, pass, the bound, add. -/
structure ShSt (w0 : World) (mb : Nat) (cool : Int) (pfn : Value) (below fb pb bb ab : Nat) (W : World) : Prop where
  ext : Ext [mb] w0 W
  cache : Cache W mb cool
  found : ∃ o n c, W.heap[fb]? = some (.cells #[.slice o n c] 25 (0, 0))
  pass : W.heap[pb]? = some (.cells #[pfn] 119 (0, 0))
  bound : W.heap[bb]? = some (.cells #[iv below] 3 (0, 0))
  add : W.heap[ab]? = some (.cells #[.func (.func 106) #[] #[.pointer (some ⟨fb, 0, none⟩), .pointer (some ⟨pb, 0, none⟩), .pointer (some ⟨bb, 0, none⟩), .pointer (some ⟨ab, 0, none⟩)]] 149 (0, 0))
  new : w0.heap.size ≤ fb ∧ w0.heap.size ≤ pb ∧ w0.heap.size ≤ bb ∧ w0.heap.size ≤ ab
  old : mb < w0.heap.size

theorem ShSt.table {w0 W W' : World} {mb : Nat} {cool : Int} {pfn : Value} {below fb pb bb ab : Nat} (h : ShSt w0 mb cool pfn below fb pb bb ab W) (hE : Ext [mb] W W') (hc : Cache W' mb cool) : ShSt w0 mb cool pfn below fb pb bb ab W' := by
  have hn := h.new
  have ho := h.old
  obtain ⟨o, n, c, hf⟩ := h.found
  have k : ∀ (b : Nat) (x : Obj), W.heap[b]? = some x → w0.heap.size ≤ b → W'.heap[b]? = some x := fun b x hb hle => (hE.block b (Array.getElem?_eq_some_iff.1 hb).1 (by simp; omega)).trans hb
  exact ⟨h.ext.trans hE, hc, ⟨o, n, c, k _ _ hf hn.1⟩, k _ _ h.pass hn.2.1, k _ _ h.bound hn.2.2.1, k _ _ h.add hn.2.2.2, hn, ho⟩
theorem ShSt.below {w0 W W' : World} {mb : Nat} {cool : Int} {pfn : Value} {below fb pb bb ab : Nat} (h : ShSt w0 mb cool pfn below fb pb bb ab W) (hB : Below W.heap.size W W') : ShSt w0 mb cool pfn below fb pb bb ab W' :=
  h.table (Ext.of_below hB) (h.cache.kept (hB.block mb h.cache.lt))

end Go.Proofs.Ytoibfafmnaooaaa
