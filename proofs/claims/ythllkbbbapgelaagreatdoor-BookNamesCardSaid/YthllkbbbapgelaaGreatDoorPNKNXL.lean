/-
  BookNames: lifted.
-/
import Derived.Test.YthllkbbbapgelaaGreatDoorRows
import Derived.Test.YthllkbbbapgelaaGreatDoorPNOK
import Derived.ProofKit
import Derived.OpenShut
import Derived.Test.YthllkbbbapgelaaGreatDoorPN16
open Go.Proofs.Z Go.Proofs.Z.Bk
namespace Go.Proofs.YthllkbbbapgelaaGreatDoor.bookNames
open Go Go.ChangeShapes Go.WideShapes Go.ChangeAt Go.RowKit Go.Proofs.YthllkbbbapgelaaGreatDoor.Bk

theorem own : ownKnob Tryz.prog.godebug = none := by kernel_rfl
theorem laid : laidOutB Tryz.prog = true := by kernel_rfl
theorem Iq (os : Os) : ((Nf os).forCall (fun _ _ => 0) ⟨#[], #[], []⟩).Shaped Tryz.prog := World.shaped_of_RefB (by kernel_rfl) (by kernel_rfl)

set_option maxRecDepth 100000 in
theorem lifted (os : Os) (started : os.Started) (H : Type) (enc : TypeId × Value → H) :
    ReturnsInHanded {} Tryz.checked os 6 .any (fun w args => (Rows.bookNamesSpec.pre enc Tryz.prog Tryz.f6 [] false w args ∧ laidMetH Tryz.prog GQ w) ∧ sizedMet enc Tryz.prog Tryz.f6 (OpenSpec.ofChange Rows.bookNamesSpec) false w args)
      (Rows.bookNamesSpec.post enc Tryz.prog Tryz.f6 false true false false) := by
  refine IB (C := Tryz.checked) (X := fun w _ => laidMetH Tryz.prog GQ w) (fun _ _ _ hh h => h.of_heap hh) own started (by kernel_rfl) Tryz.func6
    (ChangeSpec.witness_shaped (enc := enc) (C := Tryz.checked) (os := os) (X := fun w _ => laidMetH Tryz.prog GQ w) false (Nf os) #[] 8 rfl (Iq os) (by kernel_rfl) (by kernel_rfl) (by kernel_rfl) (Q7 os _)) ?_
  intro W base args ds gs before hval0 hW _ hL hsh
  have hval : ∀ (j : Nat) t v, Tryz.f6.params[j]? = some t → args[j]? = some v → Value.okWide Tryz.prog W .any base t v := hval0
  have hW' := hW
  obtain ⟨p, q, Ca, hV, rfl, hfz, hnd⟩ := hW
  have hA : DataW.TrodAll enc Tryz.prog W 0 (fun _ => true) true Tryz.f6.params.toList args.toList ds p := Ca
  rw [Tryz.params6] at hA hval
  obtain ⟨rfl, rfl⟩ := trodVars_none hV
  have hlt : ∀ x ∈ p, x.block < W.heap.size := fun x hx => hW'.lt x (by simpa using hx)
  have hAk := hA
  clear Ca hval0
  simp only [List.append_nil] at hW'
  obtain ⟨hargs, rfl, rfl⟩ := trodAll_nil hA
  obtain rfl : args = #[] := by cases args; simp_all
  refine (F5  W  (acF hL hsh)).mono fun e W' ⟨he, hg⟩ => ?_
  subst he
  exact ⟨_, rfl, _, _, _, [], _, [], hW', trodAll_cons_mk (shut_bool Tryz.underlying4 _) trodAll_mk0, Fu laid (by kernel_rfl) hAk hg hlt, rfl, hg.frame _, fun h => by cases h⟩

end Go.Proofs.YthllkbbbapgelaaGreatDoor.bookNames
