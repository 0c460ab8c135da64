/-
  The statement CouchShortest: whatever the heap, the truth's number and the turnings by bits, the Go function CouchShortest returns true: the fewest turnings keep the heap in each truth; no shorter ones, nor ones that are as long and lexicographically before them, keep it always. No condition. The heap reads as it did.
-/
import Derived.Test.YtoibfafmnaooaaaGreatRows
import Derived.Test.YtoibfafmnaooaaaGreatLS
import Derived.Test.YtoibfafmnaooaaaGreatO1
import Derived.ProofKit
import Derived.OpenShut
namespace Go.Proofs.YtoibfafmnaooaaaGreat.couchShortest
open Go.ChangeShapes Go.WideShapes Go.ChangeAt Go.RowKit

theorem own : ownKnob Tryz.prog.godebug = none := by kernel_rfl
theorem laid : laidOutB Tryz.prog = true := by kernel_rfl

set_option maxRecDepth 100000 in
theorem lifted (os : Os) (started : os.Started) (H : Type) (enc : TypeId × Value → H) :
    ReturnsInHanded {} Tryz.checked os 4 .any (Rows.couchShortestSpec.pre6 enc Tryz.prog Tryz.f4 Rows.couchShortestRow.domain false) (Rows.couchShortestSpec.post enc Tryz.prog Tryz.f4 false true false false) := by
  refine returnsInHanded_of_change (C := Tryz.checked) own started (by kernel_rfl) Tryz.func4
    (ChangeSpec.witness6 (enc := enc) (C := Tryz.checked) false ⟨#[], #[.agg #[.int .i64 0, .int .i64 0, .int .i64 0, .int .i64 0, .int .i64 0, .int .i64 0, .int .i64 0, .slice none 0 0, .slice none 0 0, .slice none 0 0], .int .u16 0, .int .u16 0], []⟩ 8 (by kernel_rfl) (by kernel_rfl) (by kernel_rfl) (by kernel_rfl)) ?_
  intro W base args ds gs before hval0 hW hcnd _
  have hval : ∀ (j : Nat) t v, Tryz.f4.params[j]? = some t → args[j]? = some v → Value.okWide Tryz.prog W .any base t v := hval0
  have hW' := hW
  obtain ⟨p, q, hA0, hV, rfl, hfz, hnd⟩ := hW
  have hA : DataW.TrodAll enc Tryz.prog W 0 (fun _ => true) true Tryz.f4.params.toList args.toList ds p := hA0
  rw [Tryz.params4] at hA hval
  obtain ⟨rfl, rfl⟩ := trodVars_none hV
  have hlt : ∀ x ∈ p, x.block < W.heap.size := fun x hx => hW'.lt x (by simpa using hx)
  have hAk := hA
  clear hA0 hval0
  simp only [List.append_nil] at hW'
  obtain ⟨v0, v1, v2, d0, d1, d2, p0, p1, p2, rfl, rfl, rfl, h0, h1, h2⟩ := trodAll_three hA
  obtain ⟨h, a, b, c, rfl, g2, g3, g4⟩ := open_heap (hval 0 _ v0 rfl rfl) h0
  obtain ⟨n1, rfl, rfl, rfl, wn1⟩ := open_int Tryz.underlying47 (hval 1 _ v1 rfl rfl) h1
  obtain ⟨bl1, bn1⟩ := bounds_u16 wn1
  obtain ⟨wh, rfl⟩ := Int.eq_ofNat_of_zero_le bl1
  obtain ⟨n2, rfl, rfl, rfl, wn2⟩ := open_int Tryz.underlying47 (hval 2 _ v2 rfl rfl) h2
  obtain ⟨bl2, bn2⟩ := bounds_u16 wn2
  obtain ⟨bs, rfl⟩ := Int.eq_ofNat_of_zero_le bl2
  refine (CouchShortest_any h a b c wh bs W g2 g3 g4 bn1 bn2).mono fun e W' ⟨he, hg⟩ => ?_
  subst he
  exact ⟨_, rfl, _, _, _, [], _, [], hW', trodAll_cons_mk (shut_bool Tryz.underlying4 _) trodAll_mk0, trodAll_below laid (by kernel_rfl) hAk hg hlt, rfl, hg.frame _, fun h => by cases h⟩

theorem over : Rows.couchShortestRow.holds Tryz.pinned (OpenSpec.ofChange Rows.couchShortestSpec) :=
  OpenClaim.holds_of_wide 4 Tryz.f4 rfl rfl rfl rfl rfl rfl rfl ⟨rfl, rfl, rfl, rfl, rfl⟩ rfl rfl rfl rfl rfl (by kernel_rfl) Tryz.func4 (by kernel_rfl)
    (of_decide_eq_true (by kernel_rfl)) (by unfold Func.isWrapper; first | (rw [if_pos (by decide +kernel)]; kernel_rfl) | (rw [if_neg (by decide +kernel)]; exact ⟨rfl, rfl⟩))
    (fun os started H enc _ => lifted os started H enc)

theorem proved : Rows.CouchShortestSaid :=
  over
end Go.Proofs.YtoibfafmnaooaaaGreat.couchShortest
