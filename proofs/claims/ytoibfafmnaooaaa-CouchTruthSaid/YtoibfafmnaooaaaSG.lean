/-
  append onto an empty slice of the call's own: no block that was there turns.
-/
import Derived.WalkKit
import Derived.WalkLawsBesides
import Derived.WalkSpells
import Derived.Outline
import Derived.Handy
import Derived.KernelRfl
import Derived.Lib.Hide
import Derived.Test.YtoibfafmnaooaaaMF
namespace Go.Proofs.Ytoibfafmnaooaaa
open Go.RowKit Go.RG Go.SL Go.Shelf Cou
set_option maxHeartbeats 400000
set_option maxRecDepth 10000

/-- **append onto an empty slice.** -/
theorem does_append_empty {P : Program} {w : World} {t e : TypeId} {z : Value} {size bytes : Nat} (hT : SliceT P t e z size bytes) {o : Oper} {ρ : Operand → Value} {s x : Operand}
    (hop : o.op = Op.call { callee := Callee.builtin Builtin.append, args := #[s, x], argTypes := #[t, t] }) {base g : Nat} (hs : ρ s = .slice (some ⟨g, 0, none⟩) 0 0) (hg : base ≤ g) (hc : w.heap[g]? = some (.cells #[] e (0, 0)))
    {src : Value} {k : Nat} {news : List Value} (hx : ρ x = src) (hsrc : SlAt size w src k news) (h1 : ∀ u ∈ news, u.oneCell' = true) (hb : k * bytes ≤ 140737488355328) (h63 : k ≤ 9223372036854775807) (hbase : base ≤ w.heap.size) :
    Does P o ρ w (fun v' w' => w'.ownsRow base e size v' k news ∧ Ext [] w w') := by
  have hown : w.ownsRow base e size (.slice (some ⟨g, 0, none⟩) 0 0) 0 [] := ⟨by simp, .inr ⟨g, 0, #[], rfl, hg, hc, Nat.le_refl _, Nat.zero_le _, by simp, by simp⟩⟩
  refine Does.mono (does_append_two hT hop hs hown hx hsrc h1 (by simpa using hb) (by simpa using h63) hbase) ?_
  rintro v W' ⟨ho, hcase⟩
  rw [Nat.zero_add, List.nil_append] at ho
  refine ⟨ho, ?_⟩
  rcases hcase with ⟨g', cap, hv, hroom, hv', hE⟩ | ⟨hE, _⟩ | ⟨hE, _⟩
  · injection hv with e1 e2 e3
    injection e1 with e1
    injection e1 with e1
    subst e1 e3
    have hk : k = 0 := by omega
    subst hk
    obtain ⟨_, ⟨h2, _⟩ | ⟨g2, cap2, cur, h2, _, h3, _, _, h4, _⟩⟩ := ho
    · rw [hv'] at h2; cases h2
    · rw [hv'] at h2
      injection h2 with q1 q2 q3
      injection q1 with q1
      injection q1 with q1
      subst q1 q3
      have hcur : cur = #[] := by
        apply Array.eq_empty_of_size_eq_zero
        simpa using h4
      subst hcur
      refine ⟨hE.os, hE.tape, hE.output, hE.size, fun b hb _ => ?_⟩
      by_cases e : b = g
      · subst e
        rw [h3, hc]
      · exact hE.block b hb (by simpa using e)
  · exact hE
  · exact hE

end Go.Proofs.Ytoibfafmnaooaaa
