/-
  No cell of these rows narrows 'for every input' (looked for: loops, veiled, ifaces, maps, wideKeys, modest, calm, conditions, laid).
  DERIVED. THE GIVEN ROWS OF THIS SEAT. 15 by the template 'for every input the law returns true; each argument reads behind the call as it read before'; 0 by the template 'total and deterministic' (their statements: YtoibfafmnaooaaaTotals.lean).
  GIVEN WITH THE SEED: the statements are not yours to turn. If you find one false, say at which input.
  Laid BY PROGRAM, IN A SANDBOX (cutbox-rows.mjs): the forced cells as the released guide's own fill.sh prints them over the translation 1e6e76e788110812… (all of the seat's roots in one cut). By AI agents, Wed Nov 11 2026. No macro, syntax, notation, axiom, sorry.
-/
import Derived.Test.YtoibfafmnaooaaaChecked
import GoSem.Claim
import GoSem.ClaimJoined
import GoSem.ClaimMapViews
import Derived.JoinedTies
import Derived.KernelRfl
namespace Go.Proofs.Ytoibfafmnaooaaa
/- THE CELL 'sum', in the pinned program and in every row, IS THE sha256 OF THE DUMP (.gsa) THAT YtoibfafmnaooaaaProg.lean LOADS. Nothing in Lean hashes anything: it is a label: what it is worth is what the hold of that sum in a sandbox is worth. -/
noncomputable def Try.pinned : Pinned := { name := "ytoibfafmnaooaaa", sum := "1e6e76e788110812179a8be6ed017b0b95d5886f8b771f740d4035061984e996", checked := Try.checked }
namespace Rows
def none {H : Type} : Left H := { results := [], args := [] }

/-- 'isatislaw04.CouchFears': WHATEVER THE INPUT: true; the input reads as it did. -/
def couchFearsSpec : ChangeSpec := { name := "couchFears", fn := fun _ => fun
  | [d1, d2] => { results := [.lit (.bool true)], args := [d1, d2] }
  | _ => none }
def couchFearsRow : OpenClaim := { program := "ytoibfafmnaooaaa", sum := "1e6e76e788110812179a8be6ed017b0b95d5886f8b771f740d4035061984e996", func := "isatis/isatislaw04.CouchFears", spec := "couchFears", unfollowed := true, recurses := true, plainKeys := false, apart := false }
def CouchFearsSaid : Prop := couchFearsRow.holds Try.pinned (OpenSpec.ofChange couchFearsSpec)

/-- ITS FALSE NEIGHBOUR: 'it returns false'. Refute it at one input. -/
def couchFearsWrong : ChangeSpec := { name := "couchFears", fn := fun _ => fun
  | [d1, d2] => { results := [.lit (.bool false)], args := [d1, d2] }
  | _ => none }
def CouchFearsWrongFalsely : Prop := couchFearsRow.holds Try.pinned (OpenSpec.ofChange couchFearsWrong)

/-- 'isatislaw04.CouchLeaves': WHATEVER THE INPUT: true; the input reads as it did. -/
def couchLeavesSpec : ChangeSpec := { name := "couchLeaves", fn := fun _ => fun
  | [d] => { results := [.lit (.bool true)], args := [d] }
  | _ => none }
def couchLeavesRow : OpenClaim := { program := "ytoibfafmnaooaaa", sum := "1e6e76e788110812179a8be6ed017b0b95d5886f8b771f740d4035061984e996", func := "isatis/isatislaw04.CouchLeaves", spec := "couchLeaves", unfollowed := true, recurses := true, plainKeys := false, apart := false }
def CouchLeavesSaid : Prop := couchLeavesRow.holds Try.pinned (OpenSpec.ofChange couchLeavesSpec)

/-- ITS FALSE NEIGHBOUR: 'it returns false'. Refute it at one input. -/
def couchLeavesWrong : ChangeSpec := { name := "couchLeaves", fn := fun _ => fun
  | [d] => { results := [.lit (.bool false)], args := [d] }
  | _ => none }
def CouchLeavesWrongFalsely : Prop := couchLeavesRow.holds Try.pinned (OpenSpec.ofChange couchLeavesWrong)

/-- 'isatislaw04.CouchEnds': WHATEVER THE INPUT: true; the input reads as it did. -/
def couchEndsSpec : ChangeSpec := { name := "couchEnds", fn := fun _ => fun
  | [d1, d2, d3] => { results := [.lit (.bool true)], args := [d1, d2, d3] }
  | _ => none }
def couchEndsRow : OpenClaim := { program := "ytoibfafmnaooaaa", sum := "1e6e76e788110812179a8be6ed017b0b95d5886f8b771f740d4035061984e996", func := "isatis/isatislaw04.CouchEnds", spec := "couchEnds", unfollowed := true, recurses := true, plainKeys := false, apart := false }
def CouchEndsSaid : Prop := couchEndsRow.holds Try.pinned (OpenSpec.ofChange couchEndsSpec)

/-- ITS FALSE NEIGHBOUR: 'it returns false'. Refute it at one input. -/
def couchEndsWrong : ChangeSpec := { name := "couchEnds", fn := fun _ => fun
  | [d1, d2, d3] => { results := [.lit (.bool false)], args := [d1, d2, d3] }
  | _ => none }
def CouchEndsWrongFalsely : Prop := couchEndsRow.holds Try.pinned (OpenSpec.ofChange couchEndsWrong)

/-- 'isatislaw04.CouchWetter': WHATEVER THE INPUT: true; the input reads as it did. -/
def couchWetterSpec : ChangeSpec := { name := "couchWetter", fn := fun _ => fun
  | [d1, d2, d3, d4, d5] => { results := [.lit (.bool true)], args := [d1, d2, d3, d4, d5] }
  | _ => none }
def couchWetterRow : OpenClaim := { program := "ytoibfafmnaooaaa", sum := "1e6e76e788110812179a8be6ed017b0b95d5886f8b771f740d4035061984e996", func := "isatis/isatislaw04.CouchWetter", spec := "couchWetter", unfollowed := true, recurses := true, plainKeys := false, apart := false }
def CouchWetterSaid : Prop := couchWetterRow.holds Try.pinned (OpenSpec.ofChange couchWetterSpec)

/-- ITS FALSE NEIGHBOUR: 'it returns false'. Refute it at one input. -/
def couchWetterWrong : ChangeSpec := { name := "couchWetter", fn := fun _ => fun
  | [d1, d2, d3, d4, d5] => { results := [.lit (.bool false)], args := [d1, d2, d3, d4, d5] }
  | _ => none }
def CouchWetterWrongFalsely : Prop := couchWetterRow.holds Try.pinned (OpenSpec.ofChange couchWetterWrong)

/-- 'isatislaw04.CouchDanger': WHATEVER THE INPUT: true; the input reads as it did. -/
def couchDangerSpec : ChangeSpec := { name := "couchDanger", fn := fun _ => fun
  | [d1, d2, d3] => { results := [.lit (.bool true)], args := [d1, d2, d3] }
  | _ => none }
def couchDangerRow : OpenClaim := { program := "ytoibfafmnaooaaa", sum := "1e6e76e788110812179a8be6ed017b0b95d5886f8b771f740d4035061984e996", func := "isatis/isatislaw04.CouchDanger", spec := "couchDanger", unfollowed := true, recurses := true, plainKeys := false, apart := false }
def CouchDangerSaid : Prop := couchDangerRow.holds Try.pinned (OpenSpec.ofChange couchDangerSpec)

/-- ITS FALSE NEIGHBOUR: 'it returns false'. Refute it at one input. -/
def couchDangerWrong : ChangeSpec := { name := "couchDanger", fn := fun _ => fun
  | [d1, d2, d3] => { results := [.lit (.bool false)], args := [d1, d2, d3] }
  | _ => none }
def CouchDangerWrongFalsely : Prop := couchDangerRow.holds Try.pinned (OpenSpec.ofChange couchDangerWrong)

/-- 'isatislaw04.CouchMore': WHATEVER THE INPUT: true; the input reads as it did. -/
def couchMoreSpec : ChangeSpec := { name := "couchMore", fn := fun _ => fun
  | [d1, d2, d3] => { results := [.lit (.bool true)], args := [d1, d2, d3] }
  | _ => none }
def couchMoreRow : OpenClaim := { program := "ytoibfafmnaooaaa", sum := "1e6e76e788110812179a8be6ed017b0b95d5886f8b771f740d4035061984e996", func := "isatis/isatislaw04.CouchMore", spec := "couchMore", unfollowed := true, recurses := true, plainKeys := false, apart := false }
def CouchMoreSaid : Prop := couchMoreRow.holds Try.pinned (OpenSpec.ofChange couchMoreSpec)

/-- ITS FALSE NEIGHBOUR: 'it returns false'. Refute it at one input. -/
def couchMoreWrong : ChangeSpec := { name := "couchMore", fn := fun _ => fun
  | [d1, d2, d3] => { results := [.lit (.bool false)], args := [d1, d2, d3] }
  | _ => none }
def CouchMoreWrongFalsely : Prop := couchMoreRow.holds Try.pinned (OpenSpec.ofChange couchMoreWrong)

/-- 'isatislaw04.CouchWider': WHATEVER THE INPUT: true; the input reads as it did. -/
def couchWiderSpec : ChangeSpec := { name := "couchWider", fn := fun _ => fun
  | [d1, d2, d3, d4] => { results := [.lit (.bool true)], args := [d1, d2, d3, d4] }
  | _ => none }
def couchWiderRow : OpenClaim := { program := "ytoibfafmnaooaaa", sum := "1e6e76e788110812179a8be6ed017b0b95d5886f8b771f740d4035061984e996", func := "isatis/isatislaw04.CouchWider", spec := "couchWider", unfollowed := true, recurses := true, plainKeys := false, apart := false }
def CouchWiderSaid : Prop := couchWiderRow.holds Try.pinned (OpenSpec.ofChange couchWiderSpec)

/-- ITS FALSE NEIGHBOUR: 'it returns false'. Refute it at one input. -/
def couchWiderWrong : ChangeSpec := { name := "couchWider", fn := fun _ => fun
  | [d1, d2, d3, d4] => { results := [.lit (.bool false)], args := [d1, d2, d3, d4] }
  | _ => none }
def CouchWiderWrongFalsely : Prop := couchWiderRow.holds Try.pinned (OpenSpec.ofChange couchWiderWrong)

/-- 'isatislaw04.CouchFirst': WHATEVER THE INPUT: true; the input reads as it did. -/
def couchFirstSpec : ChangeSpec := { name := "couchFirst", fn := fun _ => fun
  | [d] => { results := [.lit (.bool true)], args := [d] }
  | _ => none }
def couchFirstRow : OpenClaim := { program := "ytoibfafmnaooaaa", sum := "1e6e76e788110812179a8be6ed017b0b95d5886f8b771f740d4035061984e996", func := "isatis/isatislaw04.CouchFirst", spec := "couchFirst", unfollowed := true, recurses := true, plainKeys := false, apart := false }
def CouchFirstSaid : Prop := couchFirstRow.holds Try.pinned (OpenSpec.ofChange couchFirstSpec)

/-- ITS FALSE NEIGHBOUR: 'it returns false'. Refute it at one input. -/
def couchFirstWrong : ChangeSpec := { name := "couchFirst", fn := fun _ => fun
  | [d] => { results := [.lit (.bool false)], args := [d] }
  | _ => none }
def CouchFirstWrongFalsely : Prop := couchFirstRow.holds Try.pinned (OpenSpec.ofChange couchFirstWrong)

/-- 'isatislaw04.CouchLeft': WHATEVER THE INPUT: true; the input reads as it did. -/
def couchLeftSpec : ChangeSpec := { name := "couchLeft", fn := fun _ => fun
  | [d1, d2] => { results := [.lit (.bool true)], args := [d1, d2] }
  | _ => none }
def couchLeftRow : OpenClaim := { program := "ytoibfafmnaooaaa", sum := "1e6e76e788110812179a8be6ed017b0b95d5886f8b771f740d4035061984e996", func := "isatis/isatislaw04.CouchLeft", spec := "couchLeft", unfollowed := true, recurses := true, plainKeys := false, apart := false }
def CouchLeftSaid : Prop := couchLeftRow.holds Try.pinned (OpenSpec.ofChange couchLeftSpec)

/-- ITS FALSE NEIGHBOUR: 'it returns false'. Refute it at one input. -/
def couchLeftWrong : ChangeSpec := { name := "couchLeft", fn := fun _ => fun
  | [d1, d2] => { results := [.lit (.bool false)], args := [d1, d2] }
  | _ => none }
def CouchLeftWrongFalsely : Prop := couchLeftRow.holds Try.pinned (OpenSpec.ofChange couchLeftWrong)

/-- 'isatislaw04.CouchBounds': WHATEVER THE INPUT: true; the input reads as it did. -/
def couchBoundsSpec : ChangeSpec := { name := "couchBounds", fn := fun _ => fun
  | [d1, d2] => { results := [.lit (.bool true)], args := [d1, d2] }
  | _ => none }
def couchBoundsRow : OpenClaim := { program := "ytoibfafmnaooaaa", sum := "1e6e76e788110812179a8be6ed017b0b95d5886f8b771f740d4035061984e996", func := "isatis/isatislaw04.CouchBounds", spec := "couchBounds", unfollowed := true, recurses := true, plainKeys := false, apart := false }
def CouchBoundsSaid : Prop := couchBoundsRow.holds Try.pinned (OpenSpec.ofChange couchBoundsSpec)

/-- ITS FALSE NEIGHBOUR: 'it returns false'. Refute it at one input. -/
def couchBoundsWrong : ChangeSpec := { name := "couchBounds", fn := fun _ => fun
  | [d1, d2] => { results := [.lit (.bool false)], args := [d1, d2] }
  | _ => none }
def CouchBoundsWrongFalsely : Prop := couchBoundsRow.holds Try.pinned (OpenSpec.ofChange couchBoundsWrong)

/-- 'isatislaw04.CouchStill': WHATEVER THE INPUT: true; the input reads as it did. -/
def couchStillSpec : ChangeSpec := { name := "couchStill", fn := fun _ => fun
  | [d1, d2] => { results := [.lit (.bool true)], args := [d1, d2] }
  | _ => none }
def couchStillRow : OpenClaim := { program := "ytoibfafmnaooaaa", sum := "1e6e76e788110812179a8be6ed017b0b95d5886f8b771f740d4035061984e996", func := "isatis/isatislaw04.CouchStill", spec := "couchStill", unfollowed := true, recurses := true, plainKeys := false, apart := false }
def CouchStillSaid : Prop := couchStillRow.holds Try.pinned (OpenSpec.ofChange couchStillSpec)

/-- ITS FALSE NEIGHBOUR: 'it returns false'. Refute it at one input. -/
def couchStillWrong : ChangeSpec := { name := "couchStill", fn := fun _ => fun
  | [d1, d2] => { results := [.lit (.bool false)], args := [d1, d2] }
  | _ => none }
def CouchStillWrongFalsely : Prop := couchStillRow.holds Try.pinned (OpenSpec.ofChange couchStillWrong)

/-- 'isatislaw04.CouchPlays': WHATEVER THE INPUT: true; the input reads as it did. -/
def couchPlaysSpec : ChangeSpec := { name := "couchPlays", fn := fun _ => fun
  | [d1, d2, d3] => { results := [.lit (.bool true)], args := [d1, d2, d3] }
  | _ => none }
def couchPlaysRow : OpenClaim := { program := "ytoibfafmnaooaaa", sum := "1e6e76e788110812179a8be6ed017b0b95d5886f8b771f740d4035061984e996", func := "isatis/isatislaw04.CouchPlays", spec := "couchPlays", unfollowed := true, recurses := true, plainKeys := false, apart := false }
def CouchPlaysSaid : Prop := couchPlaysRow.holds Try.pinned (OpenSpec.ofChange couchPlaysSpec)

/-- ITS FALSE NEIGHBOUR: 'it returns false'. Refute it at one input. -/
def couchPlaysWrong : ChangeSpec := { name := "couchPlays", fn := fun _ => fun
  | [d1, d2, d3] => { results := [.lit (.bool false)], args := [d1, d2, d3] }
  | _ => none }
def CouchPlaysWrongFalsely : Prop := couchPlaysRow.holds Try.pinned (OpenSpec.ofChange couchPlaysWrong)

/-- 'isatislaw04.CouchTruth': WHATEVER THE INPUT: true; the input reads as it did. -/
def couchTruthSpec : ChangeSpec := { name := "couchTruth", fn := fun _ => fun
  | [d1, d2, d3, d4] => { results := [.lit (.bool true)], args := [d1, d2, d3, d4] }
  | _ => none }
def couchTruthRow : OpenClaim := { program := "ytoibfafmnaooaaa", sum := "1e6e76e788110812179a8be6ed017b0b95d5886f8b771f740d4035061984e996", func := "isatis/isatislaw04.CouchTruth", spec := "couchTruth", unfollowed := true, recurses := true, plainKeys := false, apart := false }
def CouchTruthSaid : Prop := couchTruthRow.holds Try.pinned (OpenSpec.ofChange couchTruthSpec)

/-- ITS FALSE NEIGHBOUR: 'it returns false'. Refute it at one input. -/
def couchTruthWrong : ChangeSpec := { name := "couchTruth", fn := fun _ => fun
  | [d1, d2, d3, d4] => { results := [.lit (.bool false)], args := [d1, d2, d3, d4] }
  | _ => none }
def CouchTruthWrongFalsely : Prop := couchTruthRow.holds Try.pinned (OpenSpec.ofChange couchTruthWrong)

/-- 'isatislaw04.CouchOwn': WHATEVER THE INPUT: true; the input reads as it did. -/
def couchOwnSpec : ChangeSpec := { name := "couchOwn", fn := fun _ => fun
  | [d1, d2, d3, d4] => { results := [.lit (.bool true)], args := [d1, d2, d3, d4] }
  | _ => none }
def couchOwnRow : OpenClaim := { program := "ytoibfafmnaooaaa", sum := "1e6e76e788110812179a8be6ed017b0b95d5886f8b771f740d4035061984e996", func := "isatis/isatislaw04.CouchOwn", spec := "couchOwn", unfollowed := true, recurses := true, plainKeys := false, apart := false }
def CouchOwnSaid : Prop := couchOwnRow.holds Try.pinned (OpenSpec.ofChange couchOwnSpec)

/-- ITS FALSE NEIGHBOUR: 'it returns false'. Refute it at one input. -/
def couchOwnWrong : ChangeSpec := { name := "couchOwn", fn := fun _ => fun
  | [d1, d2, d3, d4] => { results := [.lit (.bool false)], args := [d1, d2, d3, d4] }
  | _ => none }
def CouchOwnWrongFalsely : Prop := couchOwnRow.holds Try.pinned (OpenSpec.ofChange couchOwnWrong)

/-- 'isatislaw04.CouchNames': WHATEVER THE INPUT: true; the input reads as it did. -/
def couchNamesSpec : ChangeSpec := { name := "couchNames", fn := fun _ => fun
  | [] => { results := [.lit (.bool true)], args := [] }
  | _ => none }
def couchNamesRow : OpenClaim := { program := "ytoibfafmnaooaaa", sum := "1e6e76e788110812179a8be6ed017b0b95d5886f8b771f740d4035061984e996", func := "isatis/isatislaw04.CouchNames", spec := "couchNames", unfollowed := true, recurses := true, plainKeys := false, apart := false }
def CouchNamesSaid : Prop := couchNamesRow.holds Try.pinned (OpenSpec.ofChange couchNamesSpec)

/-- ITS FALSE NEIGHBOUR: 'it returns false'. Refute it at one input. -/
def couchNamesWrong : ChangeSpec := { name := "couchNames", fn := fun _ => fun
  | [] => { results := [.lit (.bool false)], args := [] }
  | _ => none }
def CouchNamesWrongFalsely : Prop := couchNamesRow.holds Try.pinned (OpenSpec.ofChange couchNamesWrong)

/- THE SECOND FORM. 'bulk': how many values and letters a reading holds, each counted each time it is reached (what is shared counts as often as it is met; a slice's spare places count too). A statement '..UptoSaid' is the law's where the arguments, and the package variables that the reading takes, are together of bulk at most 1048576: NARROWER than '..Said'. Prove '..Said' where nothing that the law and all that it calls make is longer than what came in: it says more and counts as full. Else prove '..UptoSaid'. A law counts once. -/
mutual
def uptoBulk {H : Type} : DataW H → Nat
  | .lit (.string bytes) => bytes.length + 1
  | .lit _ => 1
  | .nil => 1
  | .ptr d => uptoBulk d + 1
  | .slice elems spare => uptoBulkAll elems + uptoBulkAll spare + 1
  | .agg parts => uptoBulkAll parts + 1
  | .iface _ d => uptoBulk d + 1
  | .map entries => uptoBulkEntries entries + 1
  | .held _ => 1
def uptoBulkAll {H : Type} : List (DataW H) → Nat
  | [] => 0
  | d :: r => uptoBulk d + uptoBulkAll r
def uptoBulkEntries {H : Type} : List (Lit × DataW H) → Nat
  | [] => 0
  | x :: r => uptoBulkEntry x + uptoBulkEntries r
def uptoBulkEntry {H : Type} : Lit × DataW H → Nat
  | (.string bytes, d) => bytes.length + uptoBulk d + 1
  | (_, d) => uptoBulk d + 1
 end
def uptoSmall : (H : Type) → List (DataW H) → Bool := fun _ ds => decide (uptoBulkAll ds ≤ 1048576)
def OpenSpec.upto (s : _root_.Go.ChangeSpec) : _root_.Go.OpenSpec := { _root_.Go.OpenSpec.ofChange s with cond := some uptoSmall }

/-- 'isatislaw04.CouchFears', WHERE WHAT IT READS IS OF BULK AT MOST 1048576: true; the input reads as it did. -/
def couchFearsUptoRow : OpenClaim := { program := "ytoibfafmnaooaaa", sum := "1e6e76e788110812179a8be6ed017b0b95d5886f8b771f740d4035061984e996", func := "isatis/isatislaw04.CouchFears", spec := "couchFears", unfollowed := true, recurses := true, plainKeys := false, apart := false, narrowed := true }
def CouchFearsUptoSaid : Prop := couchFearsUptoRow.holds Try.pinned (OpenSpec.upto couchFearsSpec)

/-- 'isatislaw04.CouchLeaves', WHERE WHAT IT READS IS OF BULK AT MOST 1048576: true; the input reads as it did. -/
def couchLeavesUptoRow : OpenClaim := { program := "ytoibfafmnaooaaa", sum := "1e6e76e788110812179a8be6ed017b0b95d5886f8b771f740d4035061984e996", func := "isatis/isatislaw04.CouchLeaves", spec := "couchLeaves", unfollowed := true, recurses := true, plainKeys := false, apart := false, narrowed := true }
def CouchLeavesUptoSaid : Prop := couchLeavesUptoRow.holds Try.pinned (OpenSpec.upto couchLeavesSpec)

/-- 'isatislaw04.CouchEnds', WHERE WHAT IT READS IS OF BULK AT MOST 1048576: true; the input reads as it did. -/
def couchEndsUptoRow : OpenClaim := { program := "ytoibfafmnaooaaa", sum := "1e6e76e788110812179a8be6ed017b0b95d5886f8b771f740d4035061984e996", func := "isatis/isatislaw04.CouchEnds", spec := "couchEnds", unfollowed := true, recurses := true, plainKeys := false, apart := false, narrowed := true }
def CouchEndsUptoSaid : Prop := couchEndsUptoRow.holds Try.pinned (OpenSpec.upto couchEndsSpec)

/-- 'isatislaw04.CouchWetter', WHERE WHAT IT READS IS OF BULK AT MOST 1048576: true; the input reads as it did. -/
def couchWetterUptoRow : OpenClaim := { program := "ytoibfafmnaooaaa", sum := "1e6e76e788110812179a8be6ed017b0b95d5886f8b771f740d4035061984e996", func := "isatis/isatislaw04.CouchWetter", spec := "couchWetter", unfollowed := true, recurses := true, plainKeys := false, apart := false, narrowed := true }
def CouchWetterUptoSaid : Prop := couchWetterUptoRow.holds Try.pinned (OpenSpec.upto couchWetterSpec)

/-- 'isatislaw04.CouchDanger', WHERE WHAT IT READS IS OF BULK AT MOST 1048576: true; the input reads as it did. -/
def couchDangerUptoRow : OpenClaim := { program := "ytoibfafmnaooaaa", sum := "1e6e76e788110812179a8be6ed017b0b95d5886f8b771f740d4035061984e996", func := "isatis/isatislaw04.CouchDanger", spec := "couchDanger", unfollowed := true, recurses := true, plainKeys := false, apart := false, narrowed := true }
def CouchDangerUptoSaid : Prop := couchDangerUptoRow.holds Try.pinned (OpenSpec.upto couchDangerSpec)

/-- 'isatislaw04.CouchMore', WHERE WHAT IT READS IS OF BULK AT MOST 1048576: true; the input reads as it did. -/
def couchMoreUptoRow : OpenClaim := { program := "ytoibfafmnaooaaa", sum := "1e6e76e788110812179a8be6ed017b0b95d5886f8b771f740d4035061984e996", func := "isatis/isatislaw04.CouchMore", spec := "couchMore", unfollowed := true, recurses := true, plainKeys := false, apart := false, narrowed := true }
def CouchMoreUptoSaid : Prop := couchMoreUptoRow.holds Try.pinned (OpenSpec.upto couchMoreSpec)

/-- 'isatislaw04.CouchWider', WHERE WHAT IT READS IS OF BULK AT MOST 1048576: true; the input reads as it did. -/
def couchWiderUptoRow : OpenClaim := { program := "ytoibfafmnaooaaa", sum := "1e6e76e788110812179a8be6ed017b0b95d5886f8b771f740d4035061984e996", func := "isatis/isatislaw04.CouchWider", spec := "couchWider", unfollowed := true, recurses := true, plainKeys := false, apart := false, narrowed := true }
def CouchWiderUptoSaid : Prop := couchWiderUptoRow.holds Try.pinned (OpenSpec.upto couchWiderSpec)

/-- 'isatislaw04.CouchFirst', WHERE WHAT IT READS IS OF BULK AT MOST 1048576: true; the input reads as it did. -/
def couchFirstUptoRow : OpenClaim := { program := "ytoibfafmnaooaaa", sum := "1e6e76e788110812179a8be6ed017b0b95d5886f8b771f740d4035061984e996", func := "isatis/isatislaw04.CouchFirst", spec := "couchFirst", unfollowed := true, recurses := true, plainKeys := false, apart := false, narrowed := true }
def CouchFirstUptoSaid : Prop := couchFirstUptoRow.holds Try.pinned (OpenSpec.upto couchFirstSpec)

/-- 'isatislaw04.CouchLeft', WHERE WHAT IT READS IS OF BULK AT MOST 1048576: true; the input reads as it did. -/
def couchLeftUptoRow : OpenClaim := { program := "ytoibfafmnaooaaa", sum := "1e6e76e788110812179a8be6ed017b0b95d5886f8b771f740d4035061984e996", func := "isatis/isatislaw04.CouchLeft", spec := "couchLeft", unfollowed := true, recurses := true, plainKeys := false, apart := false, narrowed := true }
def CouchLeftUptoSaid : Prop := couchLeftUptoRow.holds Try.pinned (OpenSpec.upto couchLeftSpec)

/-- 'isatislaw04.CouchBounds', WHERE WHAT IT READS IS OF BULK AT MOST 1048576: true; the input reads as it did. -/
def couchBoundsUptoRow : OpenClaim := { program := "ytoibfafmnaooaaa", sum := "1e6e76e788110812179a8be6ed017b0b95d5886f8b771f740d4035061984e996", func := "isatis/isatislaw04.CouchBounds", spec := "couchBounds", unfollowed := true, recurses := true, plainKeys := false, apart := false, narrowed := true }
def CouchBoundsUptoSaid : Prop := couchBoundsUptoRow.holds Try.pinned (OpenSpec.upto couchBoundsSpec)

/-- 'isatislaw04.CouchStill', WHERE WHAT IT READS IS OF BULK AT MOST 1048576: true; the input reads as it did. -/
def couchStillUptoRow : OpenClaim := { program := "ytoibfafmnaooaaa", sum := "1e6e76e788110812179a8be6ed017b0b95d5886f8b771f740d4035061984e996", func := "isatis/isatislaw04.CouchStill", spec := "couchStill", unfollowed := true, recurses := true, plainKeys := false, apart := false, narrowed := true }
def CouchStillUptoSaid : Prop := couchStillUptoRow.holds Try.pinned (OpenSpec.upto couchStillSpec)

/-- 'isatislaw04.CouchPlays', WHERE WHAT IT READS IS OF BULK AT MOST 1048576: true; the input reads as it did. -/
def couchPlaysUptoRow : OpenClaim := { program := "ytoibfafmnaooaaa", sum := "1e6e76e788110812179a8be6ed017b0b95d5886f8b771f740d4035061984e996", func := "isatis/isatislaw04.CouchPlays", spec := "couchPlays", unfollowed := true, recurses := true, plainKeys := false, apart := false, narrowed := true }
def CouchPlaysUptoSaid : Prop := couchPlaysUptoRow.holds Try.pinned (OpenSpec.upto couchPlaysSpec)

/-- 'isatislaw04.CouchTruth', WHERE WHAT IT READS IS OF BULK AT MOST 1048576: true; the input reads as it did. -/
def couchTruthUptoRow : OpenClaim := { program := "ytoibfafmnaooaaa", sum := "1e6e76e788110812179a8be6ed017b0b95d5886f8b771f740d4035061984e996", func := "isatis/isatislaw04.CouchTruth", spec := "couchTruth", unfollowed := true, recurses := true, plainKeys := false, apart := false, narrowed := true }
def CouchTruthUptoSaid : Prop := couchTruthUptoRow.holds Try.pinned (OpenSpec.upto couchTruthSpec)

/-- 'isatislaw04.CouchOwn', WHERE WHAT IT READS IS OF BULK AT MOST 1048576: true; the input reads as it did. -/
def couchOwnUptoRow : OpenClaim := { program := "ytoibfafmnaooaaa", sum := "1e6e76e788110812179a8be6ed017b0b95d5886f8b771f740d4035061984e996", func := "isatis/isatislaw04.CouchOwn", spec := "couchOwn", unfollowed := true, recurses := true, plainKeys := false, apart := false, narrowed := true }
def CouchOwnUptoSaid : Prop := couchOwnUptoRow.holds Try.pinned (OpenSpec.upto couchOwnSpec)

/-- 'isatislaw04.CouchNames', WHERE WHAT IT READS IS OF BULK AT MOST 1048576: true; the input reads as it did. -/
def couchNamesUptoRow : OpenClaim := { program := "ytoibfafmnaooaaa", sum := "1e6e76e788110812179a8be6ed017b0b95d5886f8b771f740d4035061984e996", func := "isatis/isatislaw04.CouchNames", spec := "couchNames", unfollowed := true, recurses := true, plainKeys := false, apart := false, narrowed := true }
def CouchNamesUptoSaid : Prop := couchNamesUptoRow.holds Try.pinned (OpenSpec.upto couchNamesSpec)

end Rows
end Go.Proofs.Ytoibfafmnaooaaa
