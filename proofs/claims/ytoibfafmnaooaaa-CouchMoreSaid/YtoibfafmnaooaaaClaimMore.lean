/-
  The statement CouchMore: whatever the heap, one more reading and the turnings by bits, the Go function CouchMore returns true: with one more reading no bounds are wider, a verdict other than Perhaps stays, no more turnings are needed, and as many readings or one more have to be left out. No condition. The arguments read as they did.
-/
import Derived.Test.YtoibfafmnaooaaaRows
import Derived.Test.YtoibfafmnaooaaaL11
import Derived.Test.YtoibfafmnaooaaaO3
import Derived.ProofKit
import Derived.OpenShut
namespace Go.Proofs.Ytoibfafmnaooaaa.couchMore
open Go.ChangeShapes Go.WideShapes Go.ChangeAt Go.RowKit

theorem own : ownKnob Try.prog.godebug = none := by kernel_rfl
theorem laid : laidOutB Try.prog = true := by kernel_rfl

set_option maxRecDepth 100000 in
theorem lifted (os : Os) (started : os.Started) (H : Type) (enc : TypeId × Value → H) :
    ReturnsInHanded {} Try.checked os 8 .any (Rows.couchMoreSpec.pre6 enc Try.prog Try.f8 Rows.couchMoreRow.domain false) (Rows.couchMoreSpec.post enc Try.prog Try.f8 false true false false) := by
  refine returnsInHanded_of_change_sized (C := Try.checked) own started (by kernel_rfl) Try.func8
    (ChangeSpec.witness6 (enc := enc) (C := Try.checked) false ⟨#[], #[.agg #[.int .i64 0, .int .i64 0, .int .i64 0, .int .i64 0, .int .i64 0, .int .i64 0, .int .i64 0, .slice none 0 0, .slice none 0 0, .slice none 0 0], .agg #[.int .i64 0, .int .i64 0, .int .i64 0], .int .u16 0], []⟩ 8 (by kernel_rfl) (by kernel_rfl) (by kernel_rfl) (by kernel_rfl)) ?_
  intro W base args ds gs before hval0 hW hcnd hsz0 _
  have hval : ∀ (j : Nat) t v, Try.f8.params[j]? = some t → args[j]? = some v → Value.okWide Try.prog W .any base t v := hval0
  have hW' := hW
  obtain ⟨p, q, hA0, hV, rfl, hfz, hnd⟩ := hW
  have hA : DataW.TrodAll enc Try.prog W 0 (fun _ => true) true Try.f8.params.toList args.toList ds p := hA0
  rw [Try.params8] at hA hval
  obtain ⟨rfl, rfl⟩ := trodVars_none hV
  have hsz : ∀ (j : Nat) t d, (Try.f8.params.toList ++ Rows.couchMoreSpec.plain.varTypes Try.prog)[j]? = some t → ds[j]? = some d → ∀ y ∈ d.weights Try.prog t, y ≤ 140737488351232 := fun j t d h1 h2 y hy => of_decide_eq_true (List.all_eq_true.1 hsz0 y (DataW.weights_mem_each h1 (by simpa using h2) y hy))
  have hlt : ∀ x ∈ p, x.block < W.heap.size := fun x hx => hW'.lt x (by simpa using hx)
  have hAk := hA
  clear hA0 hval0
  simp only [List.append_nil] at hW'
  obtain ⟨v0, v1, v2, d0, d1, d2, p0, p1, p2, rfl, rfl, rfl, h0, h1, h2⟩ := trodAll_three hA
  obtain ⟨h, a, b, c, rfl, g2, g3, g4⟩ := open_heap (hval 0 _ v0 rfl rfl) h0
  obtain ⟨m, rfl⟩ := open_reading (hval 1 _ v1 rfl rfl) h1
  obtain ⟨n2, rfl, rfl, rfl, wn2⟩ := open_int Try.underlying59 (hval 2 _ v2 rfl rfl) h2
  obtain ⟨bl2, bn2⟩ := bounds_u16 wn2
  obtain ⟨bs, rfl⟩ := Int.eq_ofNat_of_zero_le bl2
  obtain ⟨ow, cw, rfl⟩ := g2.open
  obtain ⟨ox, cx, rfl⟩ := g4.open
  obtain ⟨z1, z2⟩ := heap_sized h0 (hsz 0 _ _ rfl rfl)
  refine (CouchMore_any h _ b _ m bs W g2 g3 g4 bn2 z2).mono fun e W' ⟨he, hg⟩ => ?_
  subst he
  exact ⟨_, rfl, _, _, _, [], _, [], hW', trodAll_cons_mk (shut_bool Try.underlying4 _) trodAll_mk0, trodAll_below laid (by kernel_rfl) hAk hg hlt, rfl, hg.frame _, fun h => by cases h⟩

theorem over : Rows.couchMoreRow.holds Try.pinned (OpenSpec.ofChange Rows.couchMoreSpec) :=
  OpenClaim.holds_of_wide 8 Try.f8 rfl rfl rfl rfl rfl rfl rfl ⟨rfl, rfl, rfl, rfl, rfl⟩ rfl rfl rfl rfl rfl (by kernel_rfl) Try.func8 (by kernel_rfl)
    (of_decide_eq_true (by kernel_rfl)) (by unfold Func.isWrapper; first | (rw [if_pos (by decide +kernel)]; kernel_rfl) | (rw [if_neg (by decide +kernel)]; exact ⟨rfl, rfl⟩))
    (fun os started H enc _ => lifted os started H enc)

theorem proved : Rows.CouchMoreSaid :=
  over
end Go.Proofs.Ytoibfafmnaooaaa.couchMore
