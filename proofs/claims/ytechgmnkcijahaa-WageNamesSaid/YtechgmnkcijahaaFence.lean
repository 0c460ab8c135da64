/-
  The law on regions that draw their order, within a fence that lets everything in (where yield is called, and in the rounds of a range over a function). Lemmas over any program.
-/
import Derived.Test.YtechgmnkcijahaaLib
import Derived.RangeFuncCalls
import Derived.RangeFuncLeaves
import Derived.RangeFuncIn
import Derived.TacticsIn
import Derived.RegionIn
import Derived.LoopIn
import Derived.LoopNIn
import Derived.OrdersIn
namespace Go.RG
open Go.RowKit

@[go_sem] theorem wide_fn (f : FuncId) : Fence.wide.fn f = True := rfl
@[go_sem] theorem wide_depth : Fence.wide.depth = none := rfl

def noDefer (ops : Array Oper) : Bool := ops.toList.all fun o => match o.op with | .defer _ => false | _ => true

theorem noDefer_spec {ops : Array Oper} (h : noDefer ops = true) {i : Nat} {o : Oper} (ho : ops[i]? = some o) : ∀ c, o.op ≠ .defer c := by
  intro c hc
  have hm : o ∈ ops.toList := by
    obtain ⟨hlt, rfl⟩ := Array.getElem?_eq_some_iff.1 ho
    simp
  have := List.all_eq_true.1 h o hm
  rw [hc] at this
  cases this

theorem semAt_exec {r : Option Nat} {o : Oper} (ρ : Operand → Value) (h : ∀ c, o.op ≠ .defer c) : o.semAt r ρ = execOp ρ o := by
  cases r with
  | none => exact Oper.semAt_none _ _
  | some l => exact Oper.semAt_some l ρ o h

theorem any_eqIn {F : Fence} {n : Nat} {P : Program} {ops : Array Oper} {Q : Exit → Act → World → Prop} : ∀ (fuel : Nat) (l : Array Bool) (a : Act) (w : World), Any (wpOpIn F n P ops Q) ops (Q .normal) fuel l a w → wpAnyIn F n P .any ops Q fuel l a w := by
  intro fuel
  induction fuel with
  | zero => exact fun l a w h => h
  | succ fuel ih => exact fun l a w h => ⟨h.1, fun i hi => wpOpIn_mono (fun a w => ih _ a w) (h.2 i hi)⟩

theorem seq_eqIn {F : Fence} {n : Nat} {P : Program} {ops : Array Oper} {Q : Exit → Act → World → Prop} (l : List Nat) : Seq (wpOpIn F n P ops Q) (Q .normal) l = wpOpsIn F n P ops Q l := by
  induction l with
  | nil => rfl
  | cons i l ih => funext a w; rw [wpOpsIn_cons, ← ih]; rfl

theorem does_wpIn {F : Fence} {n : Nat} (hF : ∀ f, F.fn f) (hd : F.depth = none) {P : Program} {o : Oper} {a : Act} {W : World} {R : Value → World → Prop} {K : Act → World → Prop} {Q : Exit → Act → World → Prop} (hno : ∀ c, o.op ≠ .defer c)
    (hcall : ∀ f args w R, Calls P f args w R → CallsIn F (n - 1) P f args w R)
    (h : Does P o a.eval W R) (hK : ∀ v W', R v W' → K (a.put o.dst v) W') : o.wpIn F n P a W K Q := by
  refine ⟨fun f _ => hF f, ?_⟩
  rw [semAt_exec _ hno]
  unfold Does at h
  generalize (execOp a.eval o).run P W = r at *
  cases r with
  | ok x w' =>
    cases x <;> simp only [Oper.uponIn] at h ⊢ <;> first | exact hK _ _ h | exact h.elim | skip
    exact ⟨(fun h => by rw [hd] at h; cases h), hcall _ _ _ _ (Calls.mono h (fun e w'' ⟨v, he, hr⟩ => by subst he; exact hK _ _ hr))⟩
  | halt x w' => exact h.elim

/-- **A REGION THAT DRAWS ITS ORDER, WALKED ONCE, IN A ROUND OR WHERE yield IS CALLED.** -/
theorem wpIn_region_rels {F : Fence} {n : Nat} (hF : ∀ f, F.fn f) (hd : F.depth = none) {R0 R1 : World → World → Prop} (hR : Rels R0 R1) {Ps : Pres} {P : Program} (hcall : ∀ f args w R, Calls P f args w R → CallsIn F (n - 1) P f args w R)
    {id : Nat} {ops : List Oper} {Q : Exit → Act → World → Prop} {a : Act} {w : World} (hdr : R0 w w.drew) (k : Nat) (m : Option Nat) (Ss : List (Nat × Spec))
    (hm : P.follows .mixedOrders = true) (hc : chk ops.toArray k = true) (hno : noDefer ops.toArray = true)
    (h : Tree Ps P ops.toArray R0 R1 m Ss (fun a w => wpListIn F n P ops.toArray Q (ops.drop k) a w) w (ops.take k) 0 a [] []) : (Code.region id ops.toArray true).wpIn F n P Q a w := by
  refine wpIn_region_any hm (any_eqIn _ _ _ _ ?_)
  refine any_start (Ps := Ps) (P := P) (R0 := R0) (R1 := R1) (m := m) (Ss := Ss) (W0 := w) hR hc (fun i K K' a w h hs => wpOpIn_mono h hs) ?_ ?_ hdr ?_
  · intro i o K a W R ho hw hd' hK
    unfold wpOpIn
    simp only [ho]
    rw [if_pos hw]
    exact does_wpIn hF hd (noDefer_spec hno ho) hcall hd' hK
  · intro i o K a W ho hw hK
    unfold wpOpIn
    simp only [ho]
    rw [if_neg (by rw [hw]; simp)]
    exact ⟨fun f _ => hF f, hK⟩
  · have e : (fun a w => wpListIn F n P ops.toArray Q (ops.drop k) a w) = Seq (wpOpIn F n P ops.toArray Q) (Q .normal) (List.range' k (ops.toArray.size - k)) := by
      funext a w
      rw [seq_eqIn]
      have hkn := (chk_spec hc).kn
      have hlen : ops.toArray.size - k = (ops.drop k).length := by simp
      rw [hlen, wpOpsIn_eq_wpListIn (ops.drop k) k (fun j => by simp)]
    rw [← e]
    exact h

theorem calls_wide {n : Nat} {P : Program} (f : FuncId) (args : Array Value) (w : World) (R : Ending → World → Prop) (h : Calls P f args w R) : CallsIn Fence.wide (n - 1) P f args w R := callsIn_wide.2 h
theorem calls_round {n : Nat} {P : Program} {l : Nat} (f : FuncId) (args : Array Value) (w : World) (R : Ending → World → Prop) (h : Calls P f args w R) : CallsIn (Fence.wide.inRound l) (n - 1) P f args w R := CallsIn.inRound l (callsIn_wide.2 h)

/-- As 'wp_region_rg', in the wide fence. -/
theorem wpIn_region_rg {n : Nat} {P : Program} {id : Nat} {ops : List Oper} {Q : Exit → Act → World → Prop} {a : Act} {w : World} (k : Nat) (Ms : List Nat) (m : Option Nat) (Ss : List (Nat × Spec))
    (hm : P.follows .mixedOrders = true) (hc : chk ops.toArray k = true) (hno : noDefer ops.toArray = true)
    (h : Tree noPre P ops.toArray (Ext []) (Ext Ms) m Ss (fun a w => wpListIn Fence.wide n P ops.toArray Q (ops.drop k) a w) w (ops.take k) 0 a [] []) : (Code.region id ops.toArray true).wpIn Fence.wide n P Q a w :=
  wpIn_region_rels (fun _ => trivial) rfl (rels_ext Ms) calls_wide ((Ext.refl [] w).drew) k m Ss hm hc hno h

/-- As 'wp_region_rg', in a round. -/
theorem wpIn_region_rgR {l n : Nat} {P : Program} {id : Nat} {ops : List Oper} {Q : Exit → Act → World → Prop} {a : Act} {w : World} (k : Nat) (Ms : List Nat) (m : Option Nat) (Ss : List (Nat × Spec))
    (hm : P.follows .mixedOrders = true) (hc : chk ops.toArray k = true) (hno : noDefer ops.toArray = true)
    (h : Tree noPre P ops.toArray (Ext []) (Ext Ms) m Ss (fun a w => wpListIn (Fence.wide.inRound l) n P ops.toArray Q (ops.drop k) a w) w (ops.take k) 0 a [] []) : (Code.region id ops.toArray true).wpIn (Fence.wide.inRound l) n P Q a w :=
  wpIn_region_rels (fun _ => trivial) rfl (rels_ext Ms) calls_round ((Ext.refl [] w).drew) k m Ss hm hc hno h

end Go.RG
