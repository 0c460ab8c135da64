/-
  Contracts of package couch, twenty-seventh part: Fewest.
-/
import Derived.WalkKit
import Derived.WalkLawsBesides
import Derived.WalkSpells
import Derived.Outline
import Derived.Handy
import Derived.KernelRfl
import Derived.Lib.Hide
import Derived.Test.YtoibfafmnaooaaaW27
namespace Go.Proofs.Ytoibfafmnaooaaa
open Go.RowKit Go.RG Go.SL Go.Shelf Cou
set_option maxHeartbeats 400000
set_option maxRecDepth 10000
attribute [local go_sem] Oper.semAt_some

theorem tTruths : SliceT Try.prog 135 71 (.agg #[iv 0, .slice none 0 0]) 2 32 := ⟨Try.underlying135, by kernel_rfl, rfl, by omega⟩

def safeL (h : HeapD) (turns : List Int) : Bool := (truthsL h []).all fun t => keptL h (heats h t turns)
def fewS (h : HeapD) : Option (List Int) := shortL (h.last + 1).toNat (safeL h)
def fewErr (h : HeapD) : Int := if askErr h [] ≠ 0 then askErr h [] else if (fewS h).isSome then 0 else 10
def fewL (h : HeapD) : List Int := if askErr h [] ≠ 0 then [] else (fewS h).getD []

/-- What Fewest has gathered: its own blocks. -/
structure Few (w : World) (wb : Nat) (es : List TE) (Ms : List Nat) (W : World) : Prop where
  b0 : W.heap[w.heap.size]? = some (.cells #[.pointer (some ⟨wb, 0, none⟩)] 106 (0, 0))
  out : ∃ v, W.heap[w.heap.size + 1]? = some (.cells #[v] 135 (0, 0)) ∧ W.ownsRow (w.heap.size + 6) 71 2 v es.length (teCells es) ∧ (∀ g, v.ownBlock = some g → g ∉ Ms ∧ g < W.heap.size) ∧
    ∀ e ∈ es, W.ownsRow (w.heap.size + 6) 3 1 e.2.1 e.2.2.length (intCells e.2.2) ∧ ∀ g, e.2.1.ownBlock = some g → (g ∉ Ms ∧ g < W.heap.size) ∧ v.ownBlock ≠ some g
  b3 : W.heap[w.heap.size + 1 + 1]? = some (.cells #[.pointer (some ⟨wb, 0, none⟩)] 106 (0, 0))
  b4 : W.heap[w.heap.size + 1 + 1 + 1]? = some (.cells #[.slice none 0 0] 25 (0, 0))

theorem Few.kept {w : World} {wb : Nat} {es : List TE} {Ms Ms' : List Nat} {W W' : World} (h : Few w wb es Ms W) (hs : W.heap.size ≤ W'.heap.size) (hk : ∀ b, w.heap.size ≤ b → b < w.heap.size + 4 → W'.heap[b]? = W.heap[b]?)
    (ho : ∀ g, w.heap.size + 6 ≤ g → g < W.heap.size → g ∉ Ms → W'.heap[g]? = W.heap[g]?) (hM : ∀ m ∈ Ms', m ∈ Ms ∨ (W.heap.size ≤ m ∧ m < W'.heap.size)) : Few w wb es Ms' W' := by
  obtain ⟨v, h1, h2, h3, h4⟩ := h.out
  have hnM : ∀ g, (g ∉ Ms ∧ g < W.heap.size) → g ∉ Ms' ∧ g < W'.heap.size := fun g ⟨hg1, hg2⟩ => ⟨fun hm => by
    rcases hM g hm with h5 | h5
    · exact hg1 h5
    · omega, by omega⟩
  refine ⟨(hk _ (by omega) (by omega)).trans h.b0, ⟨v, (hk _ (by omega) (by omega)).trans h1, owns_keep h2 fun g hg => ho g (owns_ge h2 g hg).1 (owns_ge h2 g hg).2 (h3 g hg).1, fun g hg => hnM g (h3 g hg), fun e he => ?_⟩,
    (hk _ (by omega) (by omega)).trans h.b3, (hk _ (by omega) (by omega)).trans h.b4⟩
  obtain ⟨k1, k2⟩ := h4 e he
  exact ⟨owns_keep k1 fun g hg => ho g (owns_ge k1 g hg).1 (owns_ge k1 g hg).2 (k2 g hg).1.1, fun g hg => ⟨hnM g (k2 g hg).1, (k2 g hg).2⟩⟩

/-- One more truth: W7 the world before, W8 with the clone (own block from W7 on) and the slice of one element, W9 grown, then the cell of the slice is written. -/
theorem few_push {w W7 W8 W9 : World} {wb mb : Nat} {cool : Int} {v v' : Value} {es : List TE} {e : TE} {Os Ms : List Nat} (hF : Fr w mb cool Os Ms W7) (hP : Few w wb es Ms W7)
    (hv1 : W7.heap[w.heap.size + 1]? = some (.cells #[v] 135 (0, 0))) (hv3 : ∀ g, v.ownBlock = some g → (w.heap.size + 6 ≤ g ∧ g < W7.heap.size) ∧ g ∉ Ms)
    (hE : Ext [] W7 W8) (hG : W8.grownBy W9 v.ownBlock) (hN : v'.ownBlock = v.ownBlock ∨ v'.ownBlock = some W8.heap.size) (hO : W9.ownsRow (w.heap.size + 6) 71 2 v' (es.length + 1) (teCells es ++ [iv e.1, e.2.1]))
    (hC : W8.ownsRow W7.heap.size 3 1 e.2.1 e.2.2.length (intCells e.2.2)) (hmb : mb < w.heap.size) (hs : w.heap.size + 6 ≤ W7.heap.size) :
    (Fr w mb cool Os Ms (W9.setCell ⟨w.heap.size + 1, 0, none⟩ v') ∧ Few w wb (es ++ [e]) Ms (W9.setCell ⟨w.heap.size + 1, 0, none⟩ v')) ∧
      (∀ b, b < W7.heap.size → v.ownBlock ≠ some b → b ≠ w.heap.size + 1 → (W9.setCell ⟨w.heap.size + 1, 0, none⟩ v').heap[b]? = W7.heap[b]?) ∧ W7.heap.size ≤ (W9.setCell ⟨w.heap.size + 1, 0, none⟩ v').heap.size := by
  have h1 := hE.size
  have h2 := hG.size
  have hk : ∀ b, b < W7.heap.size → v.ownBlock ≠ some b → W9.heap[b]? = W7.heap[b]? := fun b hb hn =>
    (hG.block b (by omega) (fun e => hn e.symm)).trans (hE.block b hb (by simp))
  have hks : ∀ b, b < W7.heap.size → v.ownBlock ≠ some b → b ≠ w.heap.size + 1 → (W9.setCell ⟨w.heap.size + 1, 0, none⟩ v').heap[b]? = W7.heap[b]? := fun b hb hn hne =>
    (Below.heap_setCell _ _ _ _ hne).trans (hk b hb hn)
  have hlow : ∀ b, b < w.heap.size + 6 → v.ownBlock ≠ some b := fun b hb e => by have := (hv3 b e).1.1; omega
  have hsz : W7.heap.size ≤ (W9.setCell ⟨w.heap.size + 1, 0, none⟩ v').heap.size := by simp [World.setCell]; omega
  have hb := owns_ge hO
  have hcb := owns_ge hC
  have hnv' : ∀ g, v'.ownBlock = some g → g ∉ Ms ∧ g < W9.heap.size := fun g hg => ⟨fun hm => by
    rcases hN with hN | hN
    · exact (hv3 g (by rw [← hN, hg])).2 hm
    · rw [hg] at hN
      injection hN with hN
      have := hF.bnd g hm
      omega, (hb g hg).2⟩
  refine ⟨⟨hF.own ⟨hG.os.trans (hE.os.trans hF.ext.os), hG.tape.trans (hE.tape.trans hF.ext.tape), hG.output.trans (hE.output.trans hF.ext.output), by have := hF.ext.size; omega, fun k hk' hm => (hks k (by have := hF.ext.size; omega) (hlow k (by omega)) (by omega)).trans (hF.ext.block k hk' hm)⟩ hsz (hF.cache.kept (hks mb (by omega) (hlow mb (by omega)) (by omega))), ?_⟩, hks, hsz⟩
  obtain ⟨vv, q1, q2, q3, q4⟩ := hP.out
  have hvv : vv = v := by
    rw [hv1] at q1
    simpa using q1.symm
  subst hvv
  refine ⟨(hks _ (by omega) (hlow _ (by omega)) (by omega)).trans hP.b0, ⟨v', ?_, ?_, fun g hg => ⟨(hnv' g hg).1, by have := (hnv' g hg).2; simpa [World.setCell] using this⟩, fun x hx => ?_⟩, (hks _ (by omega) (hlow _ (by omega)) (by omega)).trans hP.b3, (hks _ (by omega) (hlow _ (by omega)) (by omega)).trans hP.b4⟩
  · exact set_block ((hk _ (by omega) (hlow _ (by omega))).trans hv1) _
  · rw [List.length_append]
    have : teCells (es ++ [e]) = teCells es ++ [iv e.1, e.2.1] := by simp [teCells]
    rw [this]
    exact owns_keep hO fun g hg => Below.heap_setCell _ _ _ _ (by have := (hb g hg).1; show g ≠ w.heap.size + 1; omega)
  · rcases List.mem_append.1 hx with hx | hx
    · obtain ⟨k1, k2⟩ := q4 x hx
      have kb := owns_ge k1
      refine ⟨owns_keep k1 fun g hg => hks g (kb g hg).2 (k2 g hg).2 (by have := (kb g hg).1; omega), fun g hg => ⟨⟨(k2 g hg).1.1, by have := (kb g hg).2; omega⟩, fun e1 => ?_⟩⟩
      rcases hN with hN | hN
      · exact (k2 g hg).2 (by rw [← hN, e1])
      · rw [e1] at hN
        injection hN with hN
        have := (kb g hg).2
        omega
    · obtain rfl : x = e := by simpa using hx
      refine ⟨owns_base (owns_keep hC fun g hg => (Below.heap_setCell _ _ _ _ (by have := (hcb g hg).1; show g ≠ w.heap.size + 1; omega)).trans (hG.block g (hcb g hg).2 (fun e1 => by have := (hv3 g e1.symm).1.2; have := (hcb g hg).1; omega))) (by omega), fun g hg => ⟨⟨fun hm => ?_, ?_⟩, fun e1 => ?_⟩⟩
      · have := hF.bnd g hm; have := (hcb g hg).1; omega
      · have := (hcb g hg).2; simp [World.setCell]; omega
      · rcases hN with hN | hN
        · have := (hv3 g (by rw [← hN, e1])).1.2; have := (hcb g hg).1; omega
        · rw [e1] at hN
          injection hN with hN
          have := (hcb g hg).2; omega

end Go.Proofs.Ytoibfafmnaooaaa
