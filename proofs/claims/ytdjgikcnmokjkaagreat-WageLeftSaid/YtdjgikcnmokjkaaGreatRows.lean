/-
  No cell of these rows narrows 'for every input' (looked for: loops, veiled, ifaces, maps, wideKeys, modest, calm, conditions, laid).
  DERIVED. THE GIVEN ROWS OF THIS SEAT. 16 by the template 'for every input the law returns true; each argument reads behind the call as it read before'; 0 by the template 'total and deterministic' (their statements: YtdjgikcnmokjkaaGreatTotals.lean).
  GIVEN WITH THE SEED: the statements are not yours to turn. If you find one false, say at which input.
  Laid BY PROGRAM, IN A SANDBOX (cutbox-rows.mjs): the forced cells as the released guide's own fill.sh prints them over the translation dbd08b41f629492b… (all of the seat's roots in one cut). By AI agents, Wed Nov 11 2026. No macro, syntax, notation, axiom, sorry.
-/
import Derived.Test.YtdjgikcnmokjkaaGreatChecked
import GoSem.Claim
import GoSem.ClaimJoined
import GoSem.ClaimMapViews
import Derived.JoinedTies
import Derived.KernelRfl
namespace Go.Proofs.YtdjgikcnmokjkaaGreat
/- THE CELL 'sum', in the pinned program and in every row, IS THE sha256 OF THE DUMP (.gsa) THAT YtdjgikcnmokjkaaGreatProg.lean LOADS. Nothing in Lean hashes anything: it is a label: what it is worth is what the hold of that sum in a sandbox is worth. -/
noncomputable def Tryz.pinned : Pinned := { name := "ytdjgikcnmokjkaagreat", sum := "dbd08b41f629492b13ec907d8b8469ab818f6a69387d85e426dc9cf5c790aedc", checked := Tryz.checked }
namespace Rows
def none {H : Type} : Left H := { results := [], args := [] }

/-- 'isatislaw09.WageShares': WHATEVER THE INPUT: true; the input reads as it did. -/
def wageSharesSpec : ChangeSpec := { name := "wageShares", fn := fun _ => fun
  | [d1, d2] => { results := [.lit (.bool true)], args := [d1, d2] }
  | _ => none }
def wageSharesRow : OpenClaim := { program := "ytdjgikcnmokjkaagreat", sum := "dbd08b41f629492b13ec907d8b8469ab818f6a69387d85e426dc9cf5c790aedc", func := "isatis/isatislaw09.WageShares", spec := "wageShares", unfollowed := true, recurses := true, plainKeys := false, apart := false }
def WageSharesSaid : Prop := wageSharesRow.holds Tryz.pinned (OpenSpec.ofChange wageSharesSpec)

/-- ITS FALSE NEIGHBOUR: 'it returns false'. Refute it at one input. -/
def wageSharesWrong : ChangeSpec := { name := "wageShares", fn := fun _ => fun
  | [d1, d2] => { results := [.lit (.bool false)], args := [d1, d2] }
  | _ => none }
def WageSharesWrongFalsely : Prop := wageSharesRow.holds Tryz.pinned (OpenSpec.ofChange wageSharesWrong)

/-- 'isatislaw09.WageLeaves': WHATEVER THE INPUT: true; the input reads as it did. -/
def wageLeavesSpec : ChangeSpec := { name := "wageLeaves", fn := fun _ => fun
  | [d] => { results := [.lit (.bool true)], args := [d] }
  | _ => none }
def wageLeavesRow : OpenClaim := { program := "ytdjgikcnmokjkaagreat", sum := "dbd08b41f629492b13ec907d8b8469ab818f6a69387d85e426dc9cf5c790aedc", func := "isatis/isatislaw09.WageLeaves", spec := "wageLeaves", unfollowed := true, recurses := true, plainKeys := false, apart := false }
def WageLeavesSaid : Prop := wageLeavesRow.holds Tryz.pinned (OpenSpec.ofChange wageLeavesSpec)

/-- ITS FALSE NEIGHBOUR: 'it returns false'. Refute it at one input. -/
def wageLeavesWrong : ChangeSpec := { name := "wageLeaves", fn := fun _ => fun
  | [d] => { results := [.lit (.bool false)], args := [d] }
  | _ => none }
def WageLeavesWrongFalsely : Prop := wageLeavesRow.holds Tryz.pinned (OpenSpec.ofChange wageLeavesWrong)

/-- 'isatislaw09.WagePot': WHATEVER THE INPUT: true; the input reads as it did. -/
def wagePotSpec : ChangeSpec := { name := "wagePot", fn := fun _ => fun
  | [d1, d2, d3] => { results := [.lit (.bool true)], args := [d1, d2, d3] }
  | _ => none }
def wagePotRow : OpenClaim := { program := "ytdjgikcnmokjkaagreat", sum := "dbd08b41f629492b13ec907d8b8469ab818f6a69387d85e426dc9cf5c790aedc", func := "isatis/isatislaw09.WagePot", spec := "wagePot", unfollowed := true, recurses := true, plainKeys := false, apart := false }
def WagePotSaid : Prop := wagePotRow.holds Tryz.pinned (OpenSpec.ofChange wagePotSpec)

/-- ITS FALSE NEIGHBOUR: 'it returns false'. Refute it at one input. -/
def wagePotWrong : ChangeSpec := { name := "wagePot", fn := fun _ => fun
  | [d1, d2, d3] => { results := [.lit (.bool false)], args := [d1, d2, d3] }
  | _ => none }
def WagePotWrongFalsely : Prop := wagePotRow.holds Tryz.pinned (OpenSpec.ofChange wagePotWrong)

/-- 'isatislaw09.WageWider': WHATEVER THE INPUT: true; the input reads as it did. -/
def wageWiderSpec : ChangeSpec := { name := "wageWider", fn := fun _ => fun
  | [d1, d2, d3] => { results := [.lit (.bool true)], args := [d1, d2, d3] }
  | _ => none }
def wageWiderRow : OpenClaim := { program := "ytdjgikcnmokjkaagreat", sum := "dbd08b41f629492b13ec907d8b8469ab818f6a69387d85e426dc9cf5c790aedc", func := "isatis/isatislaw09.WageWider", spec := "wageWider", unfollowed := true, recurses := true, plainKeys := false, apart := false }
def WageWiderSaid : Prop := wageWiderRow.holds Tryz.pinned (OpenSpec.ofChange wageWiderSpec)

/-- ITS FALSE NEIGHBOUR: 'it returns false'. Refute it at one input. -/
def wageWiderWrong : ChangeSpec := { name := "wageWider", fn := fun _ => fun
  | [d1, d2, d3] => { results := [.lit (.bool false)], args := [d1, d2, d3] }
  | _ => none }
def WageWiderWrongFalsely : Prop := wageWiderRow.holds Tryz.pinned (OpenSpec.ofChange wageWiderWrong)

/-- 'isatislaw09.WageFirst': WHATEVER THE INPUT: true; the input reads as it did. -/
def wageFirstSpec : ChangeSpec := { name := "wageFirst", fn := fun _ => fun
  | [d] => { results := [.lit (.bool true)], args := [d] }
  | _ => none }
def wageFirstRow : OpenClaim := { program := "ytdjgikcnmokjkaagreat", sum := "dbd08b41f629492b13ec907d8b8469ab818f6a69387d85e426dc9cf5c790aedc", func := "isatis/isatislaw09.WageFirst", spec := "wageFirst", unfollowed := true, recurses := true, plainKeys := false, apart := false }
def WageFirstSaid : Prop := wageFirstRow.holds Tryz.pinned (OpenSpec.ofChange wageFirstSpec)

/-- ITS FALSE NEIGHBOUR: 'it returns false'. Refute it at one input. -/
def wageFirstWrong : ChangeSpec := { name := "wageFirst", fn := fun _ => fun
  | [d] => { results := [.lit (.bool false)], args := [d] }
  | _ => none }
def WageFirstWrongFalsely : Prop := wageFirstRow.holds Tryz.pinned (OpenSpec.ofChange wageFirstWrong)

/-- 'isatislaw09.WageSettles': WHATEVER THE INPUT: true; the input reads as it did. -/
def wageSettlesSpec : ChangeSpec := { name := "wageSettles", fn := fun _ => fun
  | [d1, d2] => { results := [.lit (.bool true)], args := [d1, d2] }
  | _ => none }
def wageSettlesRow : OpenClaim := { program := "ytdjgikcnmokjkaagreat", sum := "dbd08b41f629492b13ec907d8b8469ab818f6a69387d85e426dc9cf5c790aedc", func := "isatis/isatislaw09.WageSettles", spec := "wageSettles", unfollowed := true, recurses := true, plainKeys := false, apart := false }
def WageSettlesSaid : Prop := wageSettlesRow.holds Tryz.pinned (OpenSpec.ofChange wageSettlesSpec)

/-- ITS FALSE NEIGHBOUR: 'it returns false'. Refute it at one input. -/
def wageSettlesWrong : ChangeSpec := { name := "wageSettles", fn := fun _ => fun
  | [d1, d2] => { results := [.lit (.bool false)], args := [d1, d2] }
  | _ => none }
def WageSettlesWrongFalsely : Prop := wageSettlesRow.holds Tryz.pinned (OpenSpec.ofChange wageSettlesWrong)

/-- 'isatislaw09.WageSettled': WHATEVER THE INPUT: true; the input reads as it did. -/
def wageSettledSpec : ChangeSpec := { name := "wageSettled", fn := fun _ => fun
  | [d1, d2] => { results := [.lit (.bool true)], args := [d1, d2] }
  | _ => none }
def wageSettledRow : OpenClaim := { program := "ytdjgikcnmokjkaagreat", sum := "dbd08b41f629492b13ec907d8b8469ab818f6a69387d85e426dc9cf5c790aedc", func := "isatis/isatislaw09.WageSettled", spec := "wageSettled", unfollowed := true, recurses := true, plainKeys := false, apart := false }
def WageSettledSaid : Prop := wageSettledRow.holds Tryz.pinned (OpenSpec.ofChange wageSettledSpec)

/-- ITS FALSE NEIGHBOUR: 'it returns false'. Refute it at one input. -/
def wageSettledWrong : ChangeSpec := { name := "wageSettled", fn := fun _ => fun
  | [d1, d2] => { results := [.lit (.bool false)], args := [d1, d2] }
  | _ => none }
def WageSettledWrongFalsely : Prop := wageSettledRow.holds Tryz.pinned (OpenSpec.ofChange wageSettledWrong)

/-- 'isatislaw09.WageBounds': WHATEVER THE INPUT: true; the input reads as it did. -/
def wageBoundsSpec : ChangeSpec := { name := "wageBounds", fn := fun _ => fun
  | [d] => { results := [.lit (.bool true)], args := [d] }
  | _ => none }
def wageBoundsRow : OpenClaim := { program := "ytdjgikcnmokjkaagreat", sum := "dbd08b41f629492b13ec907d8b8469ab818f6a69387d85e426dc9cf5c790aedc", func := "isatis/isatislaw09.WageBounds", spec := "wageBounds", unfollowed := true, recurses := true, plainKeys := false, apart := false }
def WageBoundsSaid : Prop := wageBoundsRow.holds Tryz.pinned (OpenSpec.ofChange wageBoundsSpec)

/-- ITS FALSE NEIGHBOUR: 'it returns false'. Refute it at one input. -/
def wageBoundsWrong : ChangeSpec := { name := "wageBounds", fn := fun _ => fun
  | [d] => { results := [.lit (.bool false)], args := [d] }
  | _ => none }
def WageBoundsWrongFalsely : Prop := wageBoundsRow.holds Tryz.pinned (OpenSpec.ofChange wageBoundsWrong)

/-- 'isatislaw09.WageEnds': WHATEVER THE INPUT: true; the input reads as it did. -/
def wageEndsSpec : ChangeSpec := { name := "wageEnds", fn := fun _ => fun
  | [d1, d2] => { results := [.lit (.bool true)], args := [d1, d2] }
  | _ => none }
def wageEndsRow : OpenClaim := { program := "ytdjgikcnmokjkaagreat", sum := "dbd08b41f629492b13ec907d8b8469ab818f6a69387d85e426dc9cf5c790aedc", func := "isatis/isatislaw09.WageEnds", spec := "wageEnds", unfollowed := true, recurses := true, plainKeys := false, apart := false }
def WageEndsSaid : Prop := wageEndsRow.holds Tryz.pinned (OpenSpec.ofChange wageEndsSpec)

/-- ITS FALSE NEIGHBOUR: 'it returns false'. Refute it at one input. -/
def wageEndsWrong : ChangeSpec := { name := "wageEnds", fn := fun _ => fun
  | [d1, d2] => { results := [.lit (.bool false)], args := [d1, d2] }
  | _ => none }
def WageEndsWrongFalsely : Prop := wageEndsRow.holds Tryz.pinned (OpenSpec.ofChange wageEndsWrong)

/-- 'isatislaw09.WageWeed': WHATEVER THE INPUT: true; the input reads as it did. -/
def wageWeedSpec : ChangeSpec := { name := "wageWeed", fn := fun _ => fun
  | [d] => { results := [.lit (.bool true)], args := [d] }
  | _ => none }
def wageWeedRow : OpenClaim := { program := "ytdjgikcnmokjkaagreat", sum := "dbd08b41f629492b13ec907d8b8469ab818f6a69387d85e426dc9cf5c790aedc", func := "isatis/isatislaw09.WageWeed", spec := "wageWeed", unfollowed := true, recurses := true, plainKeys := false, apart := false }
def WageWeedSaid : Prop := wageWeedRow.holds Tryz.pinned (OpenSpec.ofChange wageWeedSpec)

/-- ITS FALSE NEIGHBOUR: 'it returns false'. Refute it at one input. -/
def wageWeedWrong : ChangeSpec := { name := "wageWeed", fn := fun _ => fun
  | [d] => { results := [.lit (.bool false)], args := [d] }
  | _ => none }
def WageWeedWrongFalsely : Prop := wageWeedRow.holds Tryz.pinned (OpenSpec.ofChange wageWeedWrong)

/-- 'isatislaw09.WageLeft': WHATEVER THE INPUT: true; the input reads as it did. -/
def wageLeftSpec : ChangeSpec := { name := "wageLeft", fn := fun _ => fun
  | [d1, d2, d3] => { results := [.lit (.bool true)], args := [d1, d2, d3] }
  | _ => none }
def wageLeftRow : OpenClaim := { program := "ytdjgikcnmokjkaagreat", sum := "dbd08b41f629492b13ec907d8b8469ab818f6a69387d85e426dc9cf5c790aedc", func := "isatis/isatislaw09.WageLeft", spec := "wageLeft", unfollowed := true, recurses := true, plainKeys := false, apart := false }
def WageLeftSaid : Prop := wageLeftRow.holds Tryz.pinned (OpenSpec.ofChange wageLeftSpec)

/-- ITS FALSE NEIGHBOUR: 'it returns false'. Refute it at one input. -/
def wageLeftWrong : ChangeSpec := { name := "wageLeft", fn := fun _ => fun
  | [d1, d2, d3] => { results := [.lit (.bool false)], args := [d1, d2, d3] }
  | _ => none }
def WageLeftWrongFalsely : Prop := wageLeftRow.holds Tryz.pinned (OpenSpec.ofChange wageLeftWrong)

/-- 'isatislaw09.WageSafes': WHATEVER THE INPUT: true; the input reads as it did. -/
def wageSafesSpec : ChangeSpec := { name := "wageSafes", fn := fun _ => fun
  | [d1, d2, d3] => { results := [.lit (.bool true)], args := [d1, d2, d3] }
  | _ => none }
def wageSafesRow : OpenClaim := { program := "ytdjgikcnmokjkaagreat", sum := "dbd08b41f629492b13ec907d8b8469ab818f6a69387d85e426dc9cf5c790aedc", func := "isatis/isatislaw09.WageSafes", spec := "wageSafes", unfollowed := true, recurses := true, plainKeys := false, apart := false }
def WageSafesSaid : Prop := wageSafesRow.holds Tryz.pinned (OpenSpec.ofChange wageSafesSpec)

/-- ITS FALSE NEIGHBOUR: 'it returns false'. Refute it at one input. -/
def wageSafesWrong : ChangeSpec := { name := "wageSafes", fn := fun _ => fun
  | [d1, d2, d3] => { results := [.lit (.bool false)], args := [d1, d2, d3] }
  | _ => none }
def WageSafesWrongFalsely : Prop := wageSafesRow.holds Tryz.pinned (OpenSpec.ofChange wageSafesWrong)

/-- 'isatislaw09.WageSafe': WHATEVER THE INPUT: true; the input reads as it did. -/
def wageSafeSpec : ChangeSpec := { name := "wageSafe", fn := fun _ => fun
  | [d1, d2, d3, d4] => { results := [.lit (.bool true)], args := [d1, d2, d3, d4] }
  | _ => none }
def wageSafeRow : OpenClaim := { program := "ytdjgikcnmokjkaagreat", sum := "dbd08b41f629492b13ec907d8b8469ab818f6a69387d85e426dc9cf5c790aedc", func := "isatis/isatislaw09.WageSafe", spec := "wageSafe", unfollowed := true, recurses := true, plainKeys := false, apart := false }
def WageSafeSaid : Prop := wageSafeRow.holds Tryz.pinned (OpenSpec.ofChange wageSafeSpec)

/-- ITS FALSE NEIGHBOUR: 'it returns false'. Refute it at one input. -/
def wageSafeWrong : ChangeSpec := { name := "wageSafe", fn := fun _ => fun
  | [d1, d2, d3, d4] => { results := [.lit (.bool false)], args := [d1, d2, d3, d4] }
  | _ => none }
def WageSafeWrongFalsely : Prop := wageSafeRow.holds Tryz.pinned (OpenSpec.ofChange wageSafeWrong)

/-- 'isatislaw09.WageDues': WHATEVER THE INPUT: true; the input reads as it did. -/
def wageDuesSpec : ChangeSpec := { name := "wageDues", fn := fun _ => fun
  | [d1, d2] => { results := [.lit (.bool true)], args := [d1, d2] }
  | _ => none }
def wageDuesRow : OpenClaim := { program := "ytdjgikcnmokjkaagreat", sum := "dbd08b41f629492b13ec907d8b8469ab818f6a69387d85e426dc9cf5c790aedc", func := "isatis/isatislaw09.WageDues", spec := "wageDues", unfollowed := true, recurses := true, plainKeys := false, apart := false }
def WageDuesSaid : Prop := wageDuesRow.holds Tryz.pinned (OpenSpec.ofChange wageDuesSpec)

/-- ITS FALSE NEIGHBOUR: 'it returns false'. Refute it at one input. -/
def wageDuesWrong : ChangeSpec := { name := "wageDues", fn := fun _ => fun
  | [d1, d2] => { results := [.lit (.bool false)], args := [d1, d2] }
  | _ => none }
def WageDuesWrongFalsely : Prop := wageDuesRow.holds Tryz.pinned (OpenSpec.ofChange wageDuesWrong)

/-- 'isatislaw09.WageMore': WHATEVER THE INPUT: true; the input reads as it did. -/
def wageMoreSpec : ChangeSpec := { name := "wageMore", fn := fun _ => fun
  | [d1, d2, d3] => { results := [.lit (.bool true)], args := [d1, d2, d3] }
  | _ => none }
def wageMoreRow : OpenClaim := { program := "ytdjgikcnmokjkaagreat", sum := "dbd08b41f629492b13ec907d8b8469ab818f6a69387d85e426dc9cf5c790aedc", func := "isatis/isatislaw09.WageMore", spec := "wageMore", unfollowed := true, recurses := true, plainKeys := false, apart := false }
def WageMoreSaid : Prop := wageMoreRow.holds Tryz.pinned (OpenSpec.ofChange wageMoreSpec)

/-- ITS FALSE NEIGHBOUR: 'it returns false'. Refute it at one input. -/
def wageMoreWrong : ChangeSpec := { name := "wageMore", fn := fun _ => fun
  | [d1, d2, d3] => { results := [.lit (.bool false)], args := [d1, d2, d3] }
  | _ => none }
def WageMoreWrongFalsely : Prop := wageMoreRow.holds Tryz.pinned (OpenSpec.ofChange wageMoreWrong)

/-- 'isatislaw09.WageTruth': WHATEVER THE INPUT: true; the input reads as it did. -/
def wageTruthSpec : ChangeSpec := { name := "wageTruth", fn := fun _ => fun
  | [d1, d2] => { results := [.lit (.bool true)], args := [d1, d2] }
  | _ => none }
def wageTruthRow : OpenClaim := { program := "ytdjgikcnmokjkaagreat", sum := "dbd08b41f629492b13ec907d8b8469ab818f6a69387d85e426dc9cf5c790aedc", func := "isatis/isatislaw09.WageTruth", spec := "wageTruth", unfollowed := true, recurses := true, plainKeys := false, apart := false }
def WageTruthSaid : Prop := wageTruthRow.holds Tryz.pinned (OpenSpec.ofChange wageTruthSpec)

/-- ITS FALSE NEIGHBOUR: 'it returns false'. Refute it at one input. -/
def wageTruthWrong : ChangeSpec := { name := "wageTruth", fn := fun _ => fun
  | [d1, d2] => { results := [.lit (.bool false)], args := [d1, d2] }
  | _ => none }
def WageTruthWrongFalsely : Prop := wageTruthRow.holds Tryz.pinned (OpenSpec.ofChange wageTruthWrong)

/- THE SECOND FORM. 'bulk': how many values and letters a reading holds, each counted each time it is reached (what is shared counts as often as it is met; a slice's spare places count too). A statement '..UptoSaid' is the law's where the arguments, and the package variables that the reading takes, are together of bulk at most 1048576: NARROWER than '..Said'. Prove '..Said' where nothing that the law and all that it calls make is longer than what came in: it says more and counts as full. Else prove '..UptoSaid'. A law counts once. -/
mutual
def uptoBulk {H : Type} : DataW H → Nat
  | .lit (.string bytes) => bytes.length + 1
  | .lit _ => 1
  | .nil => 1
  | .ptr d => uptoBulk d + 1
  | .slice elems spare => uptoBulkAll elems + uptoBulkAll spare + 1
  | .agg parts => uptoBulkAll parts + 1
  | .iface _ d => uptoBulk d + 1
  | .map entries => uptoBulkEntries entries + 1
  | .held _ => 1
def uptoBulkAll {H : Type} : List (DataW H) → Nat
  | [] => 0
  | d :: r => uptoBulk d + uptoBulkAll r
def uptoBulkEntries {H : Type} : List (Lit × DataW H) → Nat
  | [] => 0
  | x :: r => uptoBulkEntry x + uptoBulkEntries r
def uptoBulkEntry {H : Type} : Lit × DataW H → Nat
  | (.string bytes, d) => bytes.length + uptoBulk d + 1
  | (_, d) => uptoBulk d + 1
 end
def uptoSmall : (H : Type) → List (DataW H) → Bool := fun _ ds => decide (uptoBulkAll ds ≤ 1048576)
def OpenSpec.upto (s : _root_.Go.ChangeSpec) : _root_.Go.OpenSpec := { _root_.Go.OpenSpec.ofChange s with cond := some uptoSmall }

/-- 'isatislaw09.WageShares', WHERE WHAT IT READS IS OF BULK AT MOST 1048576: true; the input reads as it did. -/
def wageSharesUptoRow : OpenClaim := { program := "ytdjgikcnmokjkaagreat", sum := "dbd08b41f629492b13ec907d8b8469ab818f6a69387d85e426dc9cf5c790aedc", func := "isatis/isatislaw09.WageShares", spec := "wageShares", unfollowed := true, recurses := true, plainKeys := false, apart := false, narrowed := true }
def WageSharesUptoSaid : Prop := wageSharesUptoRow.holds Tryz.pinned (OpenSpec.upto wageSharesSpec)

/-- 'isatislaw09.WageLeaves', WHERE WHAT IT READS IS OF BULK AT MOST 1048576: true; the input reads as it did. -/
def wageLeavesUptoRow : OpenClaim := { program := "ytdjgikcnmokjkaagreat", sum := "dbd08b41f629492b13ec907d8b8469ab818f6a69387d85e426dc9cf5c790aedc", func := "isatis/isatislaw09.WageLeaves", spec := "wageLeaves", unfollowed := true, recurses := true, plainKeys := false, apart := false, narrowed := true }
def WageLeavesUptoSaid : Prop := wageLeavesUptoRow.holds Tryz.pinned (OpenSpec.upto wageLeavesSpec)

/-- 'isatislaw09.WagePot', WHERE WHAT IT READS IS OF BULK AT MOST 1048576: true; the input reads as it did. -/
def wagePotUptoRow : OpenClaim := { program := "ytdjgikcnmokjkaagreat", sum := "dbd08b41f629492b13ec907d8b8469ab818f6a69387d85e426dc9cf5c790aedc", func := "isatis/isatislaw09.WagePot", spec := "wagePot", unfollowed := true, recurses := true, plainKeys := false, apart := false, narrowed := true }
def WagePotUptoSaid : Prop := wagePotUptoRow.holds Tryz.pinned (OpenSpec.upto wagePotSpec)

/-- 'isatislaw09.WageWider', WHERE WHAT IT READS IS OF BULK AT MOST 1048576: true; the input reads as it did. -/
def wageWiderUptoRow : OpenClaim := { program := "ytdjgikcnmokjkaagreat", sum := "dbd08b41f629492b13ec907d8b8469ab818f6a69387d85e426dc9cf5c790aedc", func := "isatis/isatislaw09.WageWider", spec := "wageWider", unfollowed := true, recurses := true, plainKeys := false, apart := false, narrowed := true }
def WageWiderUptoSaid : Prop := wageWiderUptoRow.holds Tryz.pinned (OpenSpec.upto wageWiderSpec)

/-- 'isatislaw09.WageFirst', WHERE WHAT IT READS IS OF BULK AT MOST 1048576: true; the input reads as it did. -/
def wageFirstUptoRow : OpenClaim := { program := "ytdjgikcnmokjkaagreat", sum := "dbd08b41f629492b13ec907d8b8469ab818f6a69387d85e426dc9cf5c790aedc", func := "isatis/isatislaw09.WageFirst", spec := "wageFirst", unfollowed := true, recurses := true, plainKeys := false, apart := false, narrowed := true }
def WageFirstUptoSaid : Prop := wageFirstUptoRow.holds Tryz.pinned (OpenSpec.upto wageFirstSpec)

/-- 'isatislaw09.WageSettles', WHERE WHAT IT READS IS OF BULK AT MOST 1048576: true; the input reads as it did. -/
def wageSettlesUptoRow : OpenClaim := { program := "ytdjgikcnmokjkaagreat", sum := "dbd08b41f629492b13ec907d8b8469ab818f6a69387d85e426dc9cf5c790aedc", func := "isatis/isatislaw09.WageSettles", spec := "wageSettles", unfollowed := true, recurses := true, plainKeys := false, apart := false, narrowed := true }
def WageSettlesUptoSaid : Prop := wageSettlesUptoRow.holds Tryz.pinned (OpenSpec.upto wageSettlesSpec)

/-- 'isatislaw09.WageSettled', WHERE WHAT IT READS IS OF BULK AT MOST 1048576: true; the input reads as it did. -/
def wageSettledUptoRow : OpenClaim := { program := "ytdjgikcnmokjkaagreat", sum := "dbd08b41f629492b13ec907d8b8469ab818f6a69387d85e426dc9cf5c790aedc", func := "isatis/isatislaw09.WageSettled", spec := "wageSettled", unfollowed := true, recurses := true, plainKeys := false, apart := false, narrowed := true }
def WageSettledUptoSaid : Prop := wageSettledUptoRow.holds Tryz.pinned (OpenSpec.upto wageSettledSpec)

/-- 'isatislaw09.WageBounds', WHERE WHAT IT READS IS OF BULK AT MOST 1048576: true; the input reads as it did. -/
def wageBoundsUptoRow : OpenClaim := { program := "ytdjgikcnmokjkaagreat", sum := "dbd08b41f629492b13ec907d8b8469ab818f6a69387d85e426dc9cf5c790aedc", func := "isatis/isatislaw09.WageBounds", spec := "wageBounds", unfollowed := true, recurses := true, plainKeys := false, apart := false, narrowed := true }
def WageBoundsUptoSaid : Prop := wageBoundsUptoRow.holds Tryz.pinned (OpenSpec.upto wageBoundsSpec)

/-- 'isatislaw09.WageEnds', WHERE WHAT IT READS IS OF BULK AT MOST 1048576: true; the input reads as it did. -/
def wageEndsUptoRow : OpenClaim := { program := "ytdjgikcnmokjkaagreat", sum := "dbd08b41f629492b13ec907d8b8469ab818f6a69387d85e426dc9cf5c790aedc", func := "isatis/isatislaw09.WageEnds", spec := "wageEnds", unfollowed := true, recurses := true, plainKeys := false, apart := false, narrowed := true }
def WageEndsUptoSaid : Prop := wageEndsUptoRow.holds Tryz.pinned (OpenSpec.upto wageEndsSpec)

/-- 'isatislaw09.WageWeed', WHERE WHAT IT READS IS OF BULK AT MOST 1048576: true; the input reads as it did. -/
def wageWeedUptoRow : OpenClaim := { program := "ytdjgikcnmokjkaagreat", sum := "dbd08b41f629492b13ec907d8b8469ab818f6a69387d85e426dc9cf5c790aedc", func := "isatis/isatislaw09.WageWeed", spec := "wageWeed", unfollowed := true, recurses := true, plainKeys := false, apart := false, narrowed := true }
def WageWeedUptoSaid : Prop := wageWeedUptoRow.holds Tryz.pinned (OpenSpec.upto wageWeedSpec)

/-- 'isatislaw09.WageLeft', WHERE WHAT IT READS IS OF BULK AT MOST 1048576: true; the input reads as it did. -/
def wageLeftUptoRow : OpenClaim := { program := "ytdjgikcnmokjkaagreat", sum := "dbd08b41f629492b13ec907d8b8469ab818f6a69387d85e426dc9cf5c790aedc", func := "isatis/isatislaw09.WageLeft", spec := "wageLeft", unfollowed := true, recurses := true, plainKeys := false, apart := false, narrowed := true }
def WageLeftUptoSaid : Prop := wageLeftUptoRow.holds Tryz.pinned (OpenSpec.upto wageLeftSpec)

/-- 'isatislaw09.WageSafes', WHERE WHAT IT READS IS OF BULK AT MOST 1048576: true; the input reads as it did. -/
def wageSafesUptoRow : OpenClaim := { program := "ytdjgikcnmokjkaagreat", sum := "dbd08b41f629492b13ec907d8b8469ab818f6a69387d85e426dc9cf5c790aedc", func := "isatis/isatislaw09.WageSafes", spec := "wageSafes", unfollowed := true, recurses := true, plainKeys := false, apart := false, narrowed := true }
def WageSafesUptoSaid : Prop := wageSafesUptoRow.holds Tryz.pinned (OpenSpec.upto wageSafesSpec)

/-- 'isatislaw09.WageSafe', WHERE WHAT IT READS IS OF BULK AT MOST 1048576: true; the input reads as it did. -/
def wageSafeUptoRow : OpenClaim := { program := "ytdjgikcnmokjkaagreat", sum := "dbd08b41f629492b13ec907d8b8469ab818f6a69387d85e426dc9cf5c790aedc", func := "isatis/isatislaw09.WageSafe", spec := "wageSafe", unfollowed := true, recurses := true, plainKeys := false, apart := false, narrowed := true }
def WageSafeUptoSaid : Prop := wageSafeUptoRow.holds Tryz.pinned (OpenSpec.upto wageSafeSpec)

/-- 'isatislaw09.WageDues', WHERE WHAT IT READS IS OF BULK AT MOST 1048576: true; the input reads as it did. -/
def wageDuesUptoRow : OpenClaim := { program := "ytdjgikcnmokjkaagreat", sum := "dbd08b41f629492b13ec907d8b8469ab818f6a69387d85e426dc9cf5c790aedc", func := "isatis/isatislaw09.WageDues", spec := "wageDues", unfollowed := true, recurses := true, plainKeys := false, apart := false, narrowed := true }
def WageDuesUptoSaid : Prop := wageDuesUptoRow.holds Tryz.pinned (OpenSpec.upto wageDuesSpec)

/-- 'isatislaw09.WageMore', WHERE WHAT IT READS IS OF BULK AT MOST 1048576: true; the input reads as it did. -/
def wageMoreUptoRow : OpenClaim := { program := "ytdjgikcnmokjkaagreat", sum := "dbd08b41f629492b13ec907d8b8469ab818f6a69387d85e426dc9cf5c790aedc", func := "isatis/isatislaw09.WageMore", spec := "wageMore", unfollowed := true, recurses := true, plainKeys := false, apart := false, narrowed := true }
def WageMoreUptoSaid : Prop := wageMoreUptoRow.holds Tryz.pinned (OpenSpec.upto wageMoreSpec)

/-- 'isatislaw09.WageTruth', WHERE WHAT IT READS IS OF BULK AT MOST 1048576: true; the input reads as it did. -/
def wageTruthUptoRow : OpenClaim := { program := "ytdjgikcnmokjkaagreat", sum := "dbd08b41f629492b13ec907d8b8469ab818f6a69387d85e426dc9cf5c790aedc", func := "isatis/isatislaw09.WageTruth", spec := "wageTruth", unfollowed := true, recurses := true, plainKeys := false, apart := false, narrowed := true }
def WageTruthUptoSaid : Prop := wageTruthUptoRow.holds Tryz.pinned (OpenSpec.upto wageTruthSpec)

end Rows
end Go.Proofs.YtdjgikcnmokjkaaGreat
