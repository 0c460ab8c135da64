/-
  The law's in and inside (where they hold).
-/
import Derived.WalkKit
import Derived.WalkLawsBesides
import Derived.WalkSpells
import Derived.Outline
import Derived.Handy
import Derived.KernelRfl
import Derived.Lib.Hide
import Derived.BigRegion
import Derived.Test.YtdjgikcnmokjkaaGreatVO
import Derived.Test.YtdjgikcnmokjkaaGreatUL
namespace Go.Proofs.YtdjgikcnmokjkaaGreat
open Go.RowKit Go.RG Go.SL Go.Shelf Cou Go.TB
set_option maxHeartbeats 400000
set_option maxRecDepth 10000

set_option maxHeartbeats 2000000 in
theorem inside_any (rs xs : List Rng) (v u : Value) (w : World) (h : PairsAt w v rs) (k : PairsAt w u xs) (hi : InsideL rs xs) : Calls Tryz.prog 43 #[v, u] w (PV (.bool true) w) := by
  obtain ⟨o1, q1, rfl⟩ := h.open
  obtain ⟨o2, q2, rfl⟩ := k.open
  have hl1 := h.len
  have hl2 := k.len
  have HH := Lib.hid (And.intro h k)
  have HI := Lib.hid hi.2
  have HLM := Lib.hid hi.1
  have hne : ((rs.length : Int) != (xs.length : Int)) = false := by rw [hi.1]; simp
  clear h k hi
  go_enter Tryz.func43, Tryz.ntmps43
  go_wp2_with fail
  go_loopw [5] (fun i wr => ∃ k : Nat, k ≤ rs.length ∧ i = .int .i64 k ∧ Below w.heap.size w wr) (fun i _ => rs.length - (intOf i).toNat)
  case atStart => exact ⟨0, Nat.zero_le _, rfl, Below.refl _ _⟩
  case round =>
    obtain ⟨k, hk, rfl, hB⟩ := hrel
    have HB := Lib.hid hB
    by_cases hlt : k < rs.length
    · have hltm : k < xs.length := by have := HLM.out; omega
      obtain ⟨g1, f1, e1, r1, c1, d1⟩ := PairsAt.cell (HH.out.1.below hB (Nat.le_refl _)) hlt
      obtain ⟨g2, f2, e2, r2, c2, d2⟩ := PairsAt.cell (HH.out.2.below hB (Nat.le_refl _)) hltm
      have hin := HI.out k hlt
      rw [show rs.getD k (0, 0) = rs[k] from by simp [List.getD, hlt], show xs.getD k (0, 0) = xs[k] from by simp [List.getD, hltm]] at hin
      generalize rs[k] = x at *
      generalize xs[k] = y at *
      obtain ⟨x0, x1⟩ := x
      obtain ⟨y0, y1⟩ := y
      simp only at hin c1 c2 d1 d2
      have hltI : (k : Int) < rs.length := by omega
      have hltmI : (k : Int) < xs.length := by omega
      have ha : ¬ x0 < y0 := by omega
      have hb : ¬ x1 > y1 := by omega
      have hab : decide (x0 < y0) = false := by simpa using ha
      have hbb : decide (x1 > y1) = false := by simpa using hb
      cases e1
      cases e2
      clear hB hltm hin
      go_wp2_with fail
      go_region
      all_goals go_wp2_with fail
      all_goals go_roundw
      all_goals first
        | exact ⟨k + 1, by omega, by go_num, bgoDrew HB.out⟩
        | (simp [intOf]; omega)
    · have hnl : ¬ (k : Int) < rs.length := by omega
      clear hB
      go_wp2_with fail
      go_returns
      exact ⟨by simp, HB.out⟩
end Go.Proofs.YtdjgikcnmokjkaaGreat
