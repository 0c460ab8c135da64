/-
  The statement WageMore: whatever the ledger, one more note and the amount of money, the Go function WageMore returns true: with one more note no bounds are wider, as long as there is a truth, safe payments stay safe, and no fewer notes have to be left out, but at most one more. No condition. The arguments read as they did.
-/
import Derived.Test.YtdjgikcnmokjkaaGreatRows
import Derived.Test.YtdjgikcnmokjkaaGreatLD
import Derived.Test.YtdjgikcnmokjkaaGreatOH
import Derived.ProofKit
import Derived.OpenShut
namespace Go.Proofs.YtdjgikcnmokjkaaGreat.wageMore
open Go.ChangeShapes Go.WideShapes Go.ChangeAt Go.RowKit

theorem own : ownKnob Tryz.prog.godebug = none := by kernel_rfl
theorem laid : laidOutB Tryz.prog = true := by kernel_rfl

set_option maxRecDepth 100000 in
theorem lifted (os : Os) (started : os.Started) (H : Type) (enc : TypeId × Value → H) :
    ReturnsInHanded {} Tryz.checked os 17 .any (Rows.wageMoreSpec.pre6 enc Tryz.prog Tryz.f17 Rows.wageMoreRow.domain false) (Rows.wageMoreSpec.post enc Tryz.prog Tryz.f17 false true false false) := by
  refine returnsInHanded_of_change_sized (C := Tryz.checked) own started (by kernel_rfl) Tryz.func17
    (ChangeSpec.witness6 (enc := enc) (C := Tryz.checked) false ⟨#[], #[.agg #[.int .i64 0, .int .i64 0, .int .i64 0, .int .i64 0, .slice none 0 0, .int .i64 0, .int .i64 0, .int .i64 0, .slice none 0 0], .agg #[.int .i64 0, .int .i64 0, .int .i64 0], .int .u8 0], []⟩ 8 (by kernel_rfl) (by kernel_rfl) (by kernel_rfl) (by kernel_rfl)) ?_
  intro W base args ds gs before hval0 hW hcnd hsz0 _
  have hval : ∀ (j : Nat) t v, Tryz.f17.params[j]? = some t → args[j]? = some v → Value.okWide Tryz.prog W .any base t v := hval0
  have hW' := hW
  obtain ⟨p, q, hA0, hV, rfl, hfz, hnd⟩ := hW
  have hA : DataW.TrodAll enc Tryz.prog W 0 (fun _ => true) true Tryz.f17.params.toList args.toList ds p := hA0
  rw [Tryz.params17] at hA hval
  obtain ⟨rfl, rfl⟩ := trodVars_none hV
  have hsz : ∀ (j : Nat) t d, (Tryz.f17.params.toList ++ Rows.wageMoreSpec.plain.varTypes Tryz.prog)[j]? = some t → ds[j]? = some d → ∀ y ∈ d.weights Tryz.prog t, y ≤ 140737488351232 := fun j t d h1 h2 y hy => of_decide_eq_true (List.all_eq_true.1 hsz0 y (DataW.weights_mem_each h1 (by simpa using h2) y hy))
  have hlt : ∀ x ∈ p, x.block < W.heap.size := fun x hx => hW'.lt x (by simpa using hx)
  have hAk := hA
  clear hA0 hval0
  simp only [List.append_nil] at hW'
  obtain ⟨v0, v1, v2, d0, d1, d2, p0, p1, p2, rfl, rfl, rfl, h0, h1, h2⟩ := trodAll_three hA
  obtain ⟨l, tv, nv, rfl, hta, hna⟩ := open_ledger (hval 0 _ v0 rfl rfl) h0
  obtain ⟨m, rfl⟩ := open_note (hval 1 _ v1 rfl rfl) h1
  obtain ⟨n2, rfl, rfl, rfl, wn2⟩ := open_int Tryz.underlying5 (hval 2 _ v2 rfl rfl) h2
  obtain ⟨on, cn, rfl⟩ := hna.open
  have z1 := ledger_sized h0 (hsz 0 _ _ rfl rfl)
  refine (WageMore_any l tv _ m n2 W hta hna (by have := bounds_u8 wn2; omega) z1).mono fun e W' ⟨he, hg⟩ => ?_
  subst he
  exact ⟨_, rfl, _, _, _, [], _, [], hW', trodAll_cons_mk (shut_bool Tryz.underlying4 _) trodAll_mk0, trodAll_below laid (by kernel_rfl) hAk hg hlt, rfl, hg.frame _, fun h => by cases h⟩

theorem over : Rows.wageMoreRow.holds Tryz.pinned (OpenSpec.ofChange Rows.wageMoreSpec) :=
  OpenClaim.holds_of_wide 17 Tryz.f17 rfl rfl rfl rfl rfl rfl rfl ⟨rfl, rfl, rfl, rfl, rfl⟩ rfl rfl rfl rfl rfl (by kernel_rfl) Tryz.func17 (by kernel_rfl)
    (of_decide_eq_true (by kernel_rfl)) (by unfold Func.isWrapper; first | (rw [if_pos (by decide +kernel)]; kernel_rfl) | (rw [if_neg (by decide +kernel)]; exact ⟨rfl, rfl⟩))
    (fun os started H enc _ => lifted os started H enc)

theorem proved : Rows.WageMoreSaid :=
  over
end Go.Proofs.YtdjgikcnmokjkaaGreat.wageMore
