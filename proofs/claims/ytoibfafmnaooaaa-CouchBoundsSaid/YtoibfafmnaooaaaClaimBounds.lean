/-
  The statement CouchBounds: whatever the heap and the turnings, the Go function CouchBounds returns true: Bounds, Keeps and ProveKeeps answer as the reference does, with the same error. No condition. The arguments read as they did.
-/
import Derived.Test.YtoibfafmnaooaaaRows
import Derived.Test.YtoibfafmnaooaaaL7
import Derived.Test.YtoibfafmnaooaaaO2
import Derived.ProofKit
import Derived.OpenShut
namespace Go.Proofs.Ytoibfafmnaooaaa.couchBounds
open Go.ChangeShapes Go.WideShapes Go.ChangeAt Go.RowKit

theorem own : ownKnob Try.prog.godebug = none := by kernel_rfl
theorem laid : laidOutB Try.prog = true := by kernel_rfl

set_option maxRecDepth 100000 in
theorem lifted (os : Os) (started : os.Started) (H : Type) (enc : TypeId × Value → H) :
    ReturnsInHanded {} Try.checked os 12 .any (Rows.couchBoundsSpec.pre6 enc Try.prog Try.f12 Rows.couchBoundsRow.domain false) (Rows.couchBoundsSpec.post enc Try.prog Try.f12 false true false false) := by
  refine returnsInHanded_of_change (C := Try.checked) own started (by kernel_rfl) Try.func12
    (ChangeSpec.witness6 (enc := enc) (C := Try.checked) false ⟨#[], #[.agg #[.int .i64 0, .int .i64 0, .int .i64 0, .int .i64 0, .int .i64 0, .int .i64 0, .int .i64 0, .slice none 0 0, .slice none 0 0, .slice none 0 0], .slice none 0 0], []⟩ 8 (by kernel_rfl) (by kernel_rfl) (by kernel_rfl) (by kernel_rfl)) ?_
  intro W base args ds gs before hval0 hW hcnd _
  have hval : ∀ (j : Nat) t v, Try.f12.params[j]? = some t → args[j]? = some v → Value.okWide Try.prog W .any base t v := hval0
  have hW' := hW
  obtain ⟨p, q, hA0, hV, rfl, hfz, hnd⟩ := hW
  have hA : DataW.TrodAll enc Try.prog W 0 (fun _ => true) true Try.f12.params.toList args.toList ds p := hA0
  rw [Try.params12] at hA hval
  obtain ⟨rfl, rfl⟩ := trodVars_none hV
  have hlt : ∀ x ∈ p, x.block < W.heap.size := fun x hx => hW'.lt x (by simpa using hx)
  have hAk := hA
  clear hA0 hval0
  simp only [List.append_nil] at hW'
  obtain ⟨v0, v1, d0, d1, p0, p1, rfl, rfl, rfl, h0, h1⟩ := trodAll_two hA
  obtain ⟨h, a, b, c, rfl, h2, h3, h4⟩ := open_heap (hval 0 _ v0 rfl rfl) h0
  obtain ⟨l, h5⟩ := open_list (hval 1 _ v1 rfl rfl) h1
  refine (CouchBounds_any h a b c v1 l W h2 h3 h4 h5).mono fun e W' ⟨he, hg⟩ => ?_
  subst he
  exact ⟨_, rfl, _, _, _, [], _, [], hW', trodAll_cons_mk (shut_bool Try.underlying4 _) trodAll_mk0, trodAll_below laid (by kernel_rfl) hAk hg hlt, rfl, hg.frame _, fun h => by cases h⟩

theorem over : Rows.couchBoundsRow.holds Try.pinned (OpenSpec.ofChange Rows.couchBoundsSpec) :=
  OpenClaim.holds_of_wide 12 Try.f12 rfl rfl rfl rfl rfl rfl rfl ⟨rfl, rfl, rfl, rfl, rfl⟩ rfl rfl rfl rfl rfl (by kernel_rfl) Try.func12 (by kernel_rfl)
    (of_decide_eq_true (by kernel_rfl)) (by unfold Func.isWrapper; first | (rw [if_pos (by decide +kernel)]; kernel_rfl) | (rw [if_neg (by decide +kernel)]; exact ⟨rfl, rfl⟩))
    (fun os started H enc _ => lifted os started H enc)

theorem proved : Rows.CouchBoundsSaid :=
  over
end Go.Proofs.Ytoibfafmnaooaaa.couchBounds
