/-
  No cell of these rows narrows 'for every input' (looked for: loops, veiled, ifaces, maps, wideKeys, modest, calm, conditions, laid).
  DERIVED. THE GIVEN ROWS OF THIS SEAT. 2 by the template 'for every input the law returns true; each argument reads behind the call as it read before'; 0 by the template 'total and deterministic' (their statements: YtoibfafmnaooaaaGreatTotals.lean).
  GIVEN WITH THE SEED: the statements are not yours to turn. If you find one false, say at which input.
  Laid BY PROGRAM, IN A SANDBOX (cutbox-rows.mjs): the forced cells as the released guide's own fill.sh prints them over the translation 5de1454d1389e97c… (all of the seat's roots in one cut). By AI agents, Wed Nov 11 2026. No macro, syntax, notation, axiom, sorry.
-/
import Derived.Test.YtoibfafmnaooaaaGreatChecked
import GoSem.Claim
import GoSem.ClaimJoined
import GoSem.ClaimMapViews
import Derived.JoinedTies
import Derived.KernelRfl
namespace Go.Proofs.YtoibfafmnaooaaaGreat
/- THE CELL 'sum', in the pinned program and in every row, IS THE sha256 OF THE DUMP (.gsa) THAT YtoibfafmnaooaaaGreatProg.lean LOADS. Nothing in Lean hashes anything: it is a label: what it is worth is what the hold of that sum in a sandbox is worth. -/
noncomputable def Tryz.pinned : Pinned := { name := "ytoibfafmnaooaaagreat", sum := "5de1454d1389e97c63f017fe866ec1375ce682a3a8dacd50dbfcc733ecaf3450", checked := Tryz.checked }
namespace Rows
def none {H : Type} : Left H := { results := [], args := [] }

/-- 'isatislaw04.CouchFewest': WHATEVER THE INPUT: true; the input reads as it did. -/
def couchFewestSpec : ChangeSpec := { name := "couchFewest", fn := fun _ => fun
  | [d] => { results := [.lit (.bool true)], args := [d] }
  | _ => none }
def couchFewestRow : OpenClaim := { program := "ytoibfafmnaooaaagreat", sum := "5de1454d1389e97c63f017fe866ec1375ce682a3a8dacd50dbfcc733ecaf3450", func := "isatis/isatislaw04.CouchFewest", spec := "couchFewest", unfollowed := true, recurses := true, plainKeys := false, apart := false }
def CouchFewestSaid : Prop := couchFewestRow.holds Tryz.pinned (OpenSpec.ofChange couchFewestSpec)

/-- ITS FALSE NEIGHBOUR: 'it returns false'. Refute it at one input. -/
def couchFewestWrong : ChangeSpec := { name := "couchFewest", fn := fun _ => fun
  | [d] => { results := [.lit (.bool false)], args := [d] }
  | _ => none }
def CouchFewestWrongFalsely : Prop := couchFewestRow.holds Tryz.pinned (OpenSpec.ofChange couchFewestWrong)

/-- 'isatislaw04.CouchShortest': WHATEVER THE INPUT: true; the input reads as it did. -/
def couchShortestSpec : ChangeSpec := { name := "couchShortest", fn := fun _ => fun
  | [d1, d2, d3] => { results := [.lit (.bool true)], args := [d1, d2, d3] }
  | _ => none }
def couchShortestRow : OpenClaim := { program := "ytoibfafmnaooaaagreat", sum := "5de1454d1389e97c63f017fe866ec1375ce682a3a8dacd50dbfcc733ecaf3450", func := "isatis/isatislaw04.CouchShortest", spec := "couchShortest", unfollowed := true, recurses := true, plainKeys := false, apart := false }
def CouchShortestSaid : Prop := couchShortestRow.holds Tryz.pinned (OpenSpec.ofChange couchShortestSpec)

/-- ITS FALSE NEIGHBOUR: 'it returns false'. Refute it at one input. -/
def couchShortestWrong : ChangeSpec := { name := "couchShortest", fn := fun _ => fun
  | [d1, d2, d3] => { results := [.lit (.bool false)], args := [d1, d2, d3] }
  | _ => none }
def CouchShortestWrongFalsely : Prop := couchShortestRow.holds Tryz.pinned (OpenSpec.ofChange couchShortestWrong)

/- THE SECOND FORM. 'bulk': how many values and letters a reading holds, each counted each time it is reached (what is shared counts as often as it is met; a slice's spare places count too). A statement '..UptoSaid' is the law's where the arguments, and the package variables that the reading takes, are together of bulk at most 1048576: NARROWER than '..Said'. Prove '..Said' where nothing that the law and all that it calls make is longer than what came in: it says more and counts as full. Else prove '..UptoSaid'. A law counts once. -/
mutual
def uptoBulk {H : Type} : DataW H → Nat
  | .lit (.string bytes) => bytes.length + 1
  | .lit _ => 1
  | .nil => 1
  | .ptr d => uptoBulk d + 1
  | .slice elems spare => uptoBulkAll elems + uptoBulkAll spare + 1
  | .agg parts => uptoBulkAll parts + 1
  | .iface _ d => uptoBulk d + 1
  | .map entries => uptoBulkEntries entries + 1
  | .held _ => 1
def uptoBulkAll {H : Type} : List (DataW H) → Nat
  | [] => 0
  | d :: r => uptoBulk d + uptoBulkAll r
def uptoBulkEntries {H : Type} : List (Lit × DataW H) → Nat
  | [] => 0
  | x :: r => uptoBulkEntry x + uptoBulkEntries r
def uptoBulkEntry {H : Type} : Lit × DataW H → Nat
  | (.string bytes, d) => bytes.length + uptoBulk d + 1
  | (_, d) => uptoBulk d + 1
 end
def uptoSmall : (H : Type) → List (DataW H) → Bool := fun _ ds => decide (uptoBulkAll ds ≤ 1048576)
def OpenSpec.upto (s : _root_.Go.ChangeSpec) : _root_.Go.OpenSpec := { _root_.Go.OpenSpec.ofChange s with cond := some uptoSmall }

/-- 'isatislaw04.CouchFewest', WHERE WHAT IT READS IS OF BULK AT MOST 1048576: true; the input reads as it did. -/
def couchFewestUptoRow : OpenClaim := { program := "ytoibfafmnaooaaagreat", sum := "5de1454d1389e97c63f017fe866ec1375ce682a3a8dacd50dbfcc733ecaf3450", func := "isatis/isatislaw04.CouchFewest", spec := "couchFewest", unfollowed := true, recurses := true, plainKeys := false, apart := false, narrowed := true }
def CouchFewestUptoSaid : Prop := couchFewestUptoRow.holds Tryz.pinned (OpenSpec.upto couchFewestSpec)

/-- 'isatislaw04.CouchShortest', WHERE WHAT IT READS IS OF BULK AT MOST 1048576: true; the input reads as it did. -/
def couchShortestUptoRow : OpenClaim := { program := "ytoibfafmnaooaaagreat", sum := "5de1454d1389e97c63f017fe866ec1375ce682a3a8dacd50dbfcc733ecaf3450", func := "isatis/isatislaw04.CouchShortest", spec := "couchShortest", unfollowed := true, recurses := true, plainKeys := false, apart := false, narrowed := true }
def CouchShortestUptoSaid : Prop := couchShortestUptoRow.holds Tryz.pinned (OpenSpec.upto couchShortestSpec)

end Rows
end Go.Proofs.YtoibfafmnaooaaaGreat
