/-
  BookUndone: lifted.
-/
import Derived.Test.YthbpmepjmebolaaGreatDoorRows
import Derived.Test.YthbpmepjmebolaaGreatDoorPUOK
import Derived.ProofKit
import Derived.OpenShut
import Derived.Test.YthbpmepjmebolaaGreatDoorPU16
namespace Go.Proofs.YthbpmepjmebolaaGreatDoor.bookUndone
open Go Go.ChangeShapes Go.WideShapes Go.ChangeAt Go.RowKit Go.Proofs.YthbpmepjmebolaaGreatDoor.Bk

theorem own : ownKnob Tryz.prog.godebug = none := by kernel_rfl
theorem laid : laidOutB Tryz.prog = true := by kernel_rfl
theorem Le (os : Os) : ((Rk os).forCall (fun _ _ => 0) ⟨#[], #[.slice none 0 0, .string ⟨#[]⟩], []⟩).Shaped Tryz.prog := World.shaped_of_RefB (by kernel_rfl) (by kernel_rfl)

set_option maxRecDepth 100000 in
theorem lifted (os : Os) (started : os.Started) (H : Type) (enc : TypeId × Value → H) :
    ReturnsInHanded {} Tryz.checked os 6 .any (fun w args => (Rows.bookUndoneSpec.pre enc Tryz.prog Tryz.f6 [] false w args ∧ laidMetH Tryz.prog J4 w) ∧ sizedMet enc Tryz.prog Tryz.f6 (OpenSpec.ofChange Rows.bookUndoneSpec) false w args)
      (Rows.bookUndoneSpec.post enc Tryz.prog Tryz.f6 false true false false) := by
  refine Lr (C := Tryz.checked) (X := fun w _ => laidMetH Tryz.prog J4 w) (fun _ _ _ hh h => h.of_heap hh) own started (by kernel_rfl) Tryz.func6
    (ChangeSpec.witness_shaped (enc := enc) (C := Tryz.checked) (os := os) (X := fun w _ => laidMetH Tryz.prog J4 w) false (Rk os) #[.slice none 0 0, .string ⟨#[]⟩] 8 rfl (Le os) (by kernel_rfl) (by kernel_rfl) (by kernel_rfl) (VV os _)) ?_
  intro W base args ds gs before hval0 hW hsz0 hL hsh
  have hval : ∀ (j : Nat) t v, Tryz.f6.params[j]? = some t → args[j]? = some v → Value.okWide Tryz.prog W .any base t v := hval0
  have hW' := hW
  obtain ⟨p, q, hA0, hV, rfl, hfz, hnd⟩ := hW
  have hA : DataW.TrodAll enc Tryz.prog W 0 (fun _ => true) true Tryz.f6.params.toList args.toList ds p := hA0
  rw [Tryz.params6] at hA hval
  obtain ⟨rfl, rfl⟩ := trodVars_none hV
  have hsz : ∀ (j : Nat) t d, (Tryz.f6.params.toList ++ Rows.bookUndoneSpec.plain.varTypes Tryz.prog)[j]? = some t → ds[j]? = some d → ∀ y ∈ d.weights Tryz.prog t, y ≤ 140737488351232 := fun j t d h1 h2 y hy => of_decide_eq_true (List.all_eq_true.1 hsz0 y (DataW.weights_mem_each h1 (by simpa using h2) y hy))
  have hlt : ∀ x ∈ p, x.block < W.heap.size := fun x hx => hW'.lt x (by simpa using hx)
  have hAk := hA
  clear hA0 hval0
  simp only [List.append_nil] at hW'
  obtain ⟨v0, v1, d0, d1, p0, p1, rfl, rfl, rfl, h0, h1⟩ := trodAll_two hA
  obtain ⟨l0, hl0⟩ := RV (hval 0 _ v0 rfl rfl) h0
  obtain ⟨s1, rfl⟩ := Zy (hval 1 _ v1 rfl rfl) h1
  obtain ⟨lo0, lc0, rfl⟩ : ∃ a b, v0 = .slice a l0.length b := Go.SL.aN.open hl0
  have hz0 := OB h0 (hsz 0 _ _ rfl rfl)
  refine (IL l0 _ s1 W hl0 hz0 (ae4 hL hsh)).mono fun e W' ⟨he, hg⟩ => ?_
  subst he
  exact ⟨_, rfl, _, _, _, [], _, [], hW', trodAll_cons_mk (shut_bool Tryz.underlying4 _) trodAll_mk0, IX laid (by kernel_rfl) hAk hg hlt, rfl, hg.frame _, fun h => by cases h⟩

end Go.Proofs.YthbpmepjmebolaaGreatDoor.bookUndone
