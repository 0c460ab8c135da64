/-
  The law's example: answered.
-/
import Derived.WalkKit
import Derived.WalkLawsBesides
import Derived.WalkSpells
import Derived.Outline
import Derived.Handy
import Derived.KernelRfl
import Derived.Lib.Hide
import Derived.Deep.Cut
import Derived.Test.YtdjgikcnmokjkaaRH
namespace Go.Proofs.Ytdjgikcnmokjkaa
open Go.RowKit Go.RG Go.SL Go.Shelf Cou Go.TB
set_option maxHeartbeats 400000
set_option maxRecDepth 10000

/-- Two numbers of a list that is read. -/
theorem ints_two {w : World} {v : Value} {a b : Int} (h : IntsAt w v [a, b]) : ∃ g off c, v = .slice (some ⟨g, off, none⟩) 2 c ∧ w.cell? ⟨g, off, none⟩ = some (iv a) ∧ w.cell? ⟨g, off + 1, none⟩ = some (iv b) ∧ g < w.heap.size := by
  obtain ⟨o, c, rfl⟩ := h.open
  obtain ⟨g, off, rfl, hg, h0⟩ := IntsAt.cell h (k := 0) (by simp)
  obtain ⟨g', off', he, _, h1⟩ := IntsAt.cell h (k := 1) (by simp)
  cases he
  exact ⟨g, off, c, rfl, by simpa using h0, by simpa using h1, hg⟩
theorem ints_one {w : World} {v : Value} {a : Int} (h : IntsAt w v [a]) : ∃ g off c, v = .slice (some ⟨g, off, none⟩) 1 c ∧ w.cell? ⟨g, off, none⟩ = some (iv a) ∧ g < w.heap.size := by
  obtain ⟨o, c, rfl⟩ := h.open
  obtain ⟨g, off, rfl, hg, h0⟩ := IntsAt.cell h (k := 0) (by simp)
  exact ⟨g, off, c, rfl, by simpa using h0, hg⟩

abbrev exCells : Array Value := #[iv 2, iv 1, iv 0, iv 1, .slice none 0 0, iv 5, iv 0, iv 0, .slice none 0 0]

theorem answered_any (w : World) : Calls Try.prog 7 #[] w (PV (.bool true) w) := by
  go_enter Try.func7, Try.ntmps7
  go_upto_region 2 with (fail)
  refine gworld fun W1 hW1 => ?_
  have hB1 : Below w.heap.size w W1 := by rw [hW1]; exact (by repeat (first | exact Below.refl _ _ | assumption | refine bgo ?_ (by assumption) | refine bgoAlloc ?_ _ | refine bgoDrew ?_ | refine bgoSet ?_ (by simp; omega) _))
  have hK1 : W1.heap[w.heap.size]? = some (.cells exCells 41 (0, 0)) := by
    rw [hW1]
    first | exact heap_new0 _ _ | (simp [World.setCell, World.alloc]; done)
  obtain ⟨c1, f1, l1⟩ := cells_of_block hK1
  have H1 := Lib.hid (And.intro hB1 hK1)
  clear hW1 hB1 hK1
  have HS := Lib.hid (Settle_any exL (.slice none 0 0) (.slice none 0 0) W1 (SlAt.nil 5 W1) (SlAt.nil 3 W1) (by decide))
  go_wp2_with fail
  refine HS.out.mono ?_
  rintro e W2 ⟨hb2, ⟨hne, _⟩ | ⟨_, v, rfl, hv⟩⟩
  · exact absurd ex_fault hne
  rw [show settleF exL.field = [0, 1] from ex_settle] at hv
  have hK2 := (hb2.block _ l1).trans H1.out.2
  have H2 := Lib.hid (And.intro (bgo H1.out.1 hb2) hK2)
  have HV := Lib.hid hv
  clear hb2 hv c1 f1 l1
  obtain ⟨c1, f1, l1⟩ := cells_of_block hK2
  obtain ⟨vo, vc, rfl⟩ := HV.out.open
  clear hK2
  have HD := Lib.hid (fun W3 hb => Due_any exL (.slice none 0 0) (.slice none 0 0) (.slice (some ⟨W2.heap.size, 0, none⟩) 2 2) [0, -1] W3 (SlAt.nil 5 W3) (SlAt.nil 3 W3) hb (by decide))
  go_wp2_with fail
  refine (HD.out _ (SlAt.of_block 1 2 (heap_new0 _ _) rfl (by decide))).mono ?_
  rintro e W4 ⟨hb4, ⟨hne, _⟩ | ⟨_, u, rfl, hu⟩⟩
  · exact absurd ex_due.1 hne
  rw [ex_due.2] at hu
  have hb24 : Below W2.heap.size W2 W4 := bgo (bgoAlloc (Below.refl _ _) _) hb4
  obtain ⟨g1, o1, k1, hv1, p0, p1, p2⟩ := ints_two (HV.out.below hb24 (Nat.le_refl _))
  obtain ⟨g2, o2, k2, hu1, q0, q1⟩ := ints_one hu
  cases hv1
  subst hu1
  have H4 := Lib.hid (bgo H2.out.1 hb24)
  clear hb4 hb24 hu c1 f1 l1
  go_wp2_with fail
  go_returns
  exact ⟨by simp, H4.out⟩

end Go.Proofs.Ytdjgikcnmokjkaa
