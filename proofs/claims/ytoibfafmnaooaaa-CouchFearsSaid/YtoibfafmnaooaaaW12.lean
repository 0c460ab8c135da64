/-
  Contracts of package couch, eleventh part: the iterator of lists.
-/
import Derived.WalkKit
import Derived.WalkLawsBesides
import Derived.WalkSpells
import Derived.Outline
import Derived.Handy
import Derived.KernelRfl
import Derived.Lib.Hide
import Derived.Test.YtoibfafmnaooaaaW11
import Derived.Laws.EntriesVeiled
namespace Go.Proofs.Ytoibfafmnaooaaa
open Go.RowKit Go.RG Go.SL Go.Shelf Cou
set_option maxHeartbeats 400000
set_option maxRecDepth 10000

theorem make_ints (n : Nat) (hn : n ≤ 1000) (W : World) :
    (Instr.makeSlice 25 (iv n) (iv n)).run Try.prog W = .ok (.slice (some ⟨W.heap.size, 0, none⟩) n n) (W.alloc (.cells (intCells (List.replicate n 0)).toArray 3)) := by
  obtain ⟨i, hi, hz, hs, hby⟩ := info_parts tInts.info
  have := run_make (P := Try.prog) W 25 3 i (iv 0) tInts.und hi hz .i64 .i64 n n (by omega) (Int.le_refl _) (by rw [hby]; omega) (by omega)
  rw [this, hs]
  simp only [Int.toNat_natCast]
  congr 3
  apply Array.ext
  · simp [madeCells, intCells]
  · intro j h1 h2
    simp [madeCells, intCells, Value.cells]
    rw [Nat.mod_one]
    rfl

theorem heap_new3 (w : World) (A B C D : Obj) : ((((w.alloc A).alloc B).alloc C).alloc D).heap[w.heap.size + 1 + 1 + 1]? = some D := by
  have := heap_alloc_new (((w.alloc A).alloc B).alloc C) D; rwa [World.size_alloc, World.size_alloc, World.size_alloc] at this

theorem lists_seq (R : List Rng) (hR : ∀ r ∈ R, 0 ≤ r.1 ∧ r.1 ≤ r.2 ∧ r.2 ≤ 500) (hn : R.length ≤ 100) (bx : Nat) (v : Value) :
    SeqC Try.prog 130 #[.pointer (some ⟨bx, 0, none⟩)] (prodL R) ListE [] (fun _ => True) (ListInv bx v R) := by
  intro l J W hInv hstep hY h0
  obtain ⟨hbx, hsl⟩ := hInv _ _ _ h0
  have hch := fun by_ bo bc ob hd1 hd2 hd3 => choose_any R hR hn bx by_ bo bc ob l hd1 hd2 hd3 v J hInv hstep hY
  have c1 := cell_of_block0 hbx
  have hb1 := World.block_lt_of_cell? W _ c1
  have hlen := hsl.len
  obtain ⟨so, sc, rfl⟩ := hsl.open
  have HCH := Lib.hid hch
  have HST := Lib.hid hstep
  have HJ := Lib.hid h0
  have hmk := make_ints R.length (by omega)
  have hn3 : ∀ (A B C : Obj) (v : Value) (t : TypeId), ((((W.alloc A).alloc B).alloc C).alloc (.cells #[v] t)).cell? ⟨W.heap.size + 1 + 1 + 1, 0, none⟩ = some v := fun A B C v t => cell_of_block0 (heap_new3 W A B C _)
  have hf3 : ∀ (A B C : Obj) (v : Value) (t : TypeId), ((((W.alloc A).alloc B).alloc C).alloc (.cells #[v] t)).frozen? ⟨W.heap.size + 1 + 1 + 1, 0, none⟩ = false := fun A B C v t => frozen_of_block (heap_new3 W A B C _) 0
  clear hInv hstep hY hch h0 hbx hsl hR
  go_enter Try.func130, Try.ntmps130
  go_wp2_with fail
  refine (callsIn_wide.1 (HCH.out W.heap.size (W.heap.size + 1 + 1) (W.heap.size + 1 + 1 + 1) (W.heap.size + 1) (by omega) (by omega) (by omega) R.length 0 0 [] _ (List.replicate R.length 0) (by omega) rfl (by simp) (by simp) (AtFrom.zero R) ⟨?_, ?_, ?_, ?_⟩
    (HST.out _ _ _ _ _ HJ.out (Ext.of_below (by repeat (first | exact Below.refl _ _ | assumption | refine bgo ?_ (by assumption) | refine bgoAlloc ?_ _ | refine bgoDrew ?_ | refine bgoSet ?_ (by simp; omega) _))) (fun m hm => .inr (by simp at hm; (first | omega | (simp; omega)))) trivial))).mono ?_
  · exact ((Below.heap_alloc _ _ _ (by simp; omega)).trans ((Below.heap_alloc _ _ _ (by simp; omega)).trans ((Below.heap_alloc _ _ _ (by simp)).trans (heap_new0 _ _))))
  · exact ((Below.heap_alloc _ _ _ (by simp)).trans (heap_new2 _ _ _ _))
  · exact heap_new3 _ _ _ _ _
  · exact ((Below.heap_alloc _ _ _ (by simp)).trans ((Below.heap_alloc _ _ _ (by simp)).trans (heap_new1 _ _ _)))
  · rintro e W2 (⟨rfl, hJ2, _⟩ | ⟨rfl, hJ2⟩)
    · have HJ2 := Lib.hid hJ2
      clear hJ2 hn3 hf3 hmk
      go_wp2_with fail
      go_end0
      exact ⟨⟨_, rfl⟩, _, .inl (by simpa using HJ2.out)⟩
    · have HJ2 := Lib.hid hJ2
      clear hJ2 hn3 hf3 hmk
      go_wp2_with fail
      go_end0
      exact ⟨⟨_, rfl⟩, _, .inr HJ2.out⟩

/-- lists RETURNS ITS ITERATOR: the ranges are boxed. -/
theorem lists_any (o : Option Addr) (n c : Nat) (w : World) :
    Calls Try.prog 117 #[.slice o n c] w (fun e w' => e = .returned (.func (.func 130) #[] #[.pointer (some ⟨w.heap.size, 0, none⟩)]) ∧ w' = w.alloc (.cells #[.slice o n c] 37)) := by
  go_enter Try.func117, Try.ntmps117
  go_wp2
  go_returns
  exact ⟨by simp, rfl⟩

end Go.Proofs.Ytoibfafmnaooaaa
