/-
  BookGoesOn: lifted.
-/
import Derived.Test.YthllkbbbapgelaaGreatDoorRows
import Derived.Test.YthllkbbbapgelaaGreatDoorPGOK
import Derived.ProofKit
import Derived.OpenShut
import Derived.Test.YthllkbbbapgelaaGreatDoorPG17
open Go.Proofs.Z Go.Proofs.Z.Bk
namespace Go.Proofs.YthllkbbbapgelaaGreatDoor.bookGoesOn
open Go Go.ChangeShapes Go.WideShapes Go.ChangeAt Go.RowKit Go.Proofs.YthllkbbbapgelaaGreatDoor.Bk

theorem own : ownKnob Tryz.prog.godebug = none := by kernel_rfl
theorem laid : laidOutB Tryz.prog = true := by kernel_rfl
theorem GX (os : Os) : ((Mr os).forCall (fun _ _ => 0) ⟨#[], #[.slice none 0 0, .int .u16 0], []⟩).Shaped Tryz.prog := World.shaped_of_RefB (by kernel_rfl) (by kernel_rfl)

set_option maxRecDepth 100000 in
theorem lifted (os : Os) (started : os.Started) (H : Type) (enc : TypeId × Value → H) :
    ReturnsInHanded {} Tryz.checked os 7 .any (fun w args => (Rows.bookGoesOnSpec.pre enc Tryz.prog Tryz.f7 [] false w args ∧ laidMetH Tryz.prog F7 w) ∧ sizedMet enc Tryz.prog Tryz.f7 (OpenSpec.ofChange Rows.bookGoesOnSpec) false w args)
      (Rows.bookGoesOnSpec.post enc Tryz.prog Tryz.f7 false true false false) := by
  refine G8 (C := Tryz.checked) (X := fun w _ => laidMetH Tryz.prog F7 w) (fun _ _ _ hh h => h.of_heap hh) own started (by kernel_rfl) Tryz.func7
    (ChangeSpec.witness_shaped (enc := enc) (C := Tryz.checked) (os := os) (X := fun w _ => laidMetH Tryz.prog F7 w) false (Mr os) #[.slice none 0 0, .int .u16 0] 8 rfl (GX os) (by kernel_rfl) (by kernel_rfl) (by kernel_rfl) (Qi os _)) ?_
  intro W base args ds gs before hval0 hW _ hL hsh
  have hval : ∀ (j : Nat) t v, Tryz.f7.params[j]? = some t → args[j]? = some v → Value.okWide Tryz.prog W .any base t v := hval0
  have hW' := hW
  obtain ⟨p, q, hA0, hV, rfl, hfz, hnd⟩ := hW
  have hA : DataW.TrodAll enc Tryz.prog W 0 (fun _ => true) true Tryz.f7.params.toList args.toList ds p := hA0
  rw [Tryz.params7] at hA hval
  obtain ⟨rfl, rfl⟩ := trodVars_none hV
  have hlt : ∀ x ∈ p, x.block < W.heap.size := fun x hx => hW'.lt x (by simpa using hx)
  have hAk := hA
  clear hA0 hval0
  simp only [List.append_nil] at hW'
  obtain ⟨v0, v1, d0, d1, p0, p1, rfl, rfl, rfl, h0, h1⟩ := trodAll_two hA
  obtain ⟨l0, hl0⟩ := MR (hval 0 _ v0 rfl rfl) h0
  obtain ⟨n1, rfl, rfl, rfl, wf1⟩ := open_int Tryz.underlying37 (hval 1 _ v1 rfl rfl) h1
  have hn1 : 0 ≤ n1 ∧ n1 ≤ 65535 := by
    have h := wf1
    have h0 : IntKind.u16.min = 0 := by decide
    have h2 : IntKind.u16.max = 65535 := by decide
    simp only [Lit.wf, h0, h2, Bool.and_eq_true, decide_eq_true_eq] at h
    exact h
  refine (D5 l0 v0 n1 hn1.1 hn1.2 W hl0 (abo hL hsh)).mono fun e W' ⟨he, hg⟩ => ?_
  subst he
  exact ⟨_, rfl, _, _, _, [], _, [], hW', trodAll_cons_mk (shut_bool Tryz.underlying4 _) trodAll_mk0, Ee laid (by kernel_rfl) hAk hg hlt, rfl, hg.frame _, fun h => by cases h⟩

end Go.Proofs.YthllkbbbapgelaaGreatDoor.bookGoesOn
