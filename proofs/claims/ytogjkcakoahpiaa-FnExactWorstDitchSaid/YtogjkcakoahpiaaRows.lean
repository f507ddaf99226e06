/-
  No cell of these rows narrows 'for every input' (looked for: loops, veiled, ifaces, maps, wideKeys, modest, calm, conditions, laid).
  DERIVED. THE GIVEN ROWS OF THIS SEAT. 6 by the template 'for every input the law returns true; each argument reads behind the call as it read before'; 0 by the template 'total and deterministic' (their statements: YtogjkcakoahpiaaTotals.lean).
  GIVEN WITH THE SEED: the statements are not yours to turn. If you find one false, say at which input.
  Laid BY PROGRAM, IN A SANDBOX (cutbox-rows.mjs): the forced cells as the released guide's own fill.sh prints them over the translation af3c1f901e1f1737… (all of the seat's roots in one cut). By AI agents, Wed Nov 11 2026. No macro, syntax, notation, axiom, sorry.
-/
import Derived.Test.YtogjkcakoahpiaaChecked
import GoSem.Claim
import GoSem.ClaimJoined
import GoSem.ClaimMapViews
import Derived.JoinedTies
import Derived.KernelRfl
namespace Go.Proofs.Ytogjkcakoahpiaa
/- THE CELL 'sum', in the pinned program and in every row, IS THE sha256 OF THE DUMP (.gsa) THAT YtogjkcakoahpiaaProg.lean LOADS. Nothing in Lean hashes anything: it is a label: what it is worth is what the hold of that sum in a sandbox is worth. -/
noncomputable def Try.pinned : Pinned := { name := "ytogjkcakoahpiaa", sum := "af3c1f901e1f1737f819c612eab49f7617a741229e0dcea03aee8af9af614ff8", checked := Try.checked }
namespace Rows
def none {H : Type} : Left H := { results := [], args := [] }

/-- 'laws.FnExactGreatestFlow': WHATEVER THE INPUT: true; the input reads as it did. -/
def fnExactGreatestFlowSpec : ChangeSpec := { name := "fnExactGreatestFlow", fn := fun _ => fun
  | [d1, d2] => { results := [.lit (.bool true)], args := [d1, d2] }
  | _ => none }
def fnExactGreatestFlowRow : OpenClaim := { program := "ytogjkcakoahpiaa", sum := "af3c1f901e1f1737f819c612eab49f7617a741229e0dcea03aee8af9af614ff8", func := "loop.example/g01032/laws.FnExactGreatestFlow", spec := "fnExactGreatestFlow", unfollowed := true, recurses := true, apart := false }
def FnExactGreatestFlowSaid : Prop := fnExactGreatestFlowRow.holds Try.pinned (OpenSpec.ofChange fnExactGreatestFlowSpec)

/-- ITS FALSE NEIGHBOUR: 'it returns false'. Refute it at one input. -/
def fnExactGreatestFlowWrong : ChangeSpec := { name := "fnExactGreatestFlow", fn := fun _ => fun
  | [d1, d2] => { results := [.lit (.bool false)], args := [d1, d2] }
  | _ => none }
def FnExactGreatestFlowWrongFalsely : Prop := fnExactGreatestFlowRow.holds Try.pinned (OpenSpec.ofChange fnExactGreatestFlowWrong)

/-- 'laws.FnExactWorstDitch': WHATEVER THE INPUT: true; the input reads as it did. -/
def fnExactWorstDitchSpec : ChangeSpec := { name := "fnExactWorstDitch", fn := fun _ => fun
  | [d1, d2] => { results := [.lit (.bool true)], args := [d1, d2] }
  | _ => none }
def fnExactWorstDitchRow : OpenClaim := { program := "ytogjkcakoahpiaa", sum := "af3c1f901e1f1737f819c612eab49f7617a741229e0dcea03aee8af9af614ff8", func := "loop.example/g01032/laws.FnExactWorstDitch", spec := "fnExactWorstDitch", unfollowed := true, recurses := true, apart := false }
def FnExactWorstDitchSaid : Prop := fnExactWorstDitchRow.holds Try.pinned (OpenSpec.ofChange fnExactWorstDitchSpec)

/-- ITS FALSE NEIGHBOUR: 'it returns false'. Refute it at one input. -/
def fnExactWorstDitchWrong : ChangeSpec := { name := "fnExactWorstDitch", fn := fun _ => fun
  | [d1, d2] => { results := [.lit (.bool false)], args := [d1, d2] }
  | _ => none }
def FnExactWorstDitchWrongFalsely : Prop := fnExactWorstDitchRow.holds Try.pinned (OpenSpec.ofChange fnExactWorstDitchWrong)

/-- 'laws.FnExactNarrowSide': WHATEVER THE INPUT: true; the input reads as it did. -/
def fnExactNarrowSideSpec : ChangeSpec := { name := "fnExactNarrowSide", fn := fun _ => fun
  | [d1, d2] => { results := [.lit (.bool true)], args := [d1, d2] }
  | _ => none }
def fnExactNarrowSideRow : OpenClaim := { program := "ytogjkcakoahpiaa", sum := "af3c1f901e1f1737f819c612eab49f7617a741229e0dcea03aee8af9af614ff8", func := "loop.example/g01032/laws.FnExactNarrowSide", spec := "fnExactNarrowSide", unfollowed := true, recurses := true, apart := false }
def FnExactNarrowSideSaid : Prop := fnExactNarrowSideRow.holds Try.pinned (OpenSpec.ofChange fnExactNarrowSideSpec)

/-- ITS FALSE NEIGHBOUR: 'it returns false'. Refute it at one input. -/
def fnExactNarrowSideWrong : ChangeSpec := { name := "fnExactNarrowSide", fn := fun _ => fun
  | [d1, d2] => { results := [.lit (.bool false)], args := [d1, d2] }
  | _ => none }
def FnExactNarrowSideWrongFalsely : Prop := fnExactNarrowSideRow.holds Try.pinned (OpenSpec.ofChange fnExactNarrowSideWrong)

/-- 'laws.FnExactDivideDues': WHATEVER THE INPUT: true; the input reads as it did. -/
def fnExactDivideDuesSpec : ChangeSpec := { name := "fnExactDivideDues", fn := fun _ => fun
  | [d1, d2, d3] => { results := [.lit (.bool true)], args := [d1, d2, d3] }
  | _ => none }
def fnExactDivideDuesRow : OpenClaim := { program := "ytogjkcakoahpiaa", sum := "af3c1f901e1f1737f819c612eab49f7617a741229e0dcea03aee8af9af614ff8", func := "loop.example/g01032/laws.FnExactDivideDues", spec := "fnExactDivideDues", inPlace := ["internal/reflectlite.ValueOf", "internal/reflectlite.Swapper", "(internal/reflectlite.Value).Len"], unfollowed := true, recurses := true, apart := false }
def FnExactDivideDuesSaid : Prop := fnExactDivideDuesRow.holds Try.pinned (OpenSpec.ofChange fnExactDivideDuesSpec)

/-- ITS FALSE NEIGHBOUR: 'it returns false'. Refute it at one input. -/
def fnExactDivideDuesWrong : ChangeSpec := { name := "fnExactDivideDues", fn := fun _ => fun
  | [d1, d2, d3] => { results := [.lit (.bool false)], args := [d1, d2, d3] }
  | _ => none }
def FnExactDivideDuesWrongFalsely : Prop := fnExactDivideDuesRow.holds Try.pinned (OpenSpec.ofChange fnExactDivideDuesWrong)

/-- 'laws.FnExactRouteOf': WHATEVER THE INPUT: true; the input reads as it did. -/
def fnExactRouteOfSpec : ChangeSpec := { name := "fnExactRouteOf", fn := fun _ => fun
  | [d1, d2, d3] => { results := [.lit (.bool true)], args := [d1, d2, d3] }
  | _ => none }
def fnExactRouteOfRow : OpenClaim := { program := "ytogjkcakoahpiaa", sum := "af3c1f901e1f1737f819c612eab49f7617a741229e0dcea03aee8af9af614ff8", func := "loop.example/g01032/laws.FnExactRouteOf", spec := "fnExactRouteOf", inPlace := ["internal/reflectlite.ValueOf", "internal/reflectlite.Swapper", "(internal/reflectlite.Value).Len"], unfollowed := true, recurses := true, apart := false }
def FnExactRouteOfSaid : Prop := fnExactRouteOfRow.holds Try.pinned (OpenSpec.ofChange fnExactRouteOfSpec)

/-- ITS FALSE NEIGHBOUR: 'it returns false'. Refute it at one input. -/
def fnExactRouteOfWrong : ChangeSpec := { name := "fnExactRouteOf", fn := fun _ => fun
  | [d1, d2, d3] => { results := [.lit (.bool false)], args := [d1, d2, d3] }
  | _ => none }
def FnExactRouteOfWrongFalsely : Prop := fnExactRouteOfRow.holds Try.pinned (OpenSpec.ofChange fnExactRouteOfWrong)

/-- 'laws.FnExactCalledAt': WHATEVER THE INPUT: true; the input reads as it did. -/
def fnExactCalledAtSpec : ChangeSpec := { name := "fnExactCalledAt", fn := fun _ => fun
  | [d1, d2] => { results := [.lit (.bool true)], args := [d1, d2] }
  | _ => none }
def fnExactCalledAtRow : OpenClaim := { program := "ytogjkcakoahpiaa", sum := "af3c1f901e1f1737f819c612eab49f7617a741229e0dcea03aee8af9af614ff8", func := "loop.example/g01032/laws.FnExactCalledAt", spec := "fnExactCalledAt", unfollowed := true, recurses := true, apart := false }
def FnExactCalledAtSaid : Prop := fnExactCalledAtRow.holds Try.pinned (OpenSpec.ofChange fnExactCalledAtSpec)

/-- ITS FALSE NEIGHBOUR: 'it returns false'. Refute it at one input. -/
def fnExactCalledAtWrong : ChangeSpec := { name := "fnExactCalledAt", fn := fun _ => fun
  | [d1, d2] => { results := [.lit (.bool false)], args := [d1, d2] }
  | _ => none }
def FnExactCalledAtWrongFalsely : Prop := fnExactCalledAtRow.holds Try.pinned (OpenSpec.ofChange fnExactCalledAtWrong)

/- THE SECOND FORM. 'bulk': how many values and letters a reading holds, each counted each time it is reached (what is shared counts as often as it is met; a slice's spare places count too). A statement '..UptoSaid' is the law's where the arguments, and the package variables that the reading takes, are together of bulk at most 1048576: NARROWER than '..Said'. Prove '..Said' where nothing that the law and all that it calls make is longer than what came in: it says more and counts as full. Else prove '..UptoSaid'. A law counts once. -/
mutual
def uptoBulk {H : Type} : DataW H → Nat
  | .lit (.string bytes) => bytes.length + 1
  | .lit _ => 1
  | .nil => 1
  | .ptr d => uptoBulk d + 1
  | .slice elems spare => uptoBulkAll elems + uptoBulkAll spare + 1
  | .agg parts => uptoBulkAll parts + 1
  | .iface _ d => uptoBulk d + 1
  | .map entries => uptoBulkEntries entries + 1
  | .held _ => 1
def uptoBulkAll {H : Type} : List (DataW H) → Nat
  | [] => 0
  | d :: r => uptoBulk d + uptoBulkAll r
def uptoBulkEntries {H : Type} : List (Lit × DataW H) → Nat
  | [] => 0
  | x :: r => uptoBulkEntry x + uptoBulkEntries r
def uptoBulkEntry {H : Type} : Lit × DataW H → Nat
  | (.string bytes, d) => bytes.length + uptoBulk d + 1
  | (_, d) => uptoBulk d + 1
 end
def uptoSmall : (H : Type) → List (DataW H) → Bool := fun _ ds => decide (uptoBulkAll ds ≤ 1048576)
def OpenSpec.upto (s : _root_.Go.ChangeSpec) : _root_.Go.OpenSpec := { _root_.Go.OpenSpec.ofChange s with cond := some uptoSmall }

/-- 'laws.FnExactGreatestFlow', WHERE WHAT IT READS IS OF BULK AT MOST 1048576: true; the input reads as it did. -/
def fnExactGreatestFlowUptoRow : OpenClaim := { program := "ytogjkcakoahpiaa", sum := "af3c1f901e1f1737f819c612eab49f7617a741229e0dcea03aee8af9af614ff8", func := "loop.example/g01032/laws.FnExactGreatestFlow", spec := "fnExactGreatestFlow", unfollowed := true, recurses := true, apart := false, narrowed := true }
def FnExactGreatestFlowUptoSaid : Prop := fnExactGreatestFlowUptoRow.holds Try.pinned (OpenSpec.upto fnExactGreatestFlowSpec)

/-- 'laws.FnExactWorstDitch', WHERE WHAT IT READS IS OF BULK AT MOST 1048576: true; the input reads as it did. -/
def fnExactWorstDitchUptoRow : OpenClaim := { program := "ytogjkcakoahpiaa", sum := "af3c1f901e1f1737f819c612eab49f7617a741229e0dcea03aee8af9af614ff8", func := "loop.example/g01032/laws.FnExactWorstDitch", spec := "fnExactWorstDitch", unfollowed := true, recurses := true, apart := false, narrowed := true }
def FnExactWorstDitchUptoSaid : Prop := fnExactWorstDitchUptoRow.holds Try.pinned (OpenSpec.upto fnExactWorstDitchSpec)

/-- 'laws.FnExactNarrowSide', WHERE WHAT IT READS IS OF BULK AT MOST 1048576: true; the input reads as it did. -/
def fnExactNarrowSideUptoRow : OpenClaim := { program := "ytogjkcakoahpiaa", sum := "af3c1f901e1f1737f819c612eab49f7617a741229e0dcea03aee8af9af614ff8", func := "loop.example/g01032/laws.FnExactNarrowSide", spec := "fnExactNarrowSide", unfollowed := true, recurses := true, apart := false, narrowed := true }
def FnExactNarrowSideUptoSaid : Prop := fnExactNarrowSideUptoRow.holds Try.pinned (OpenSpec.upto fnExactNarrowSideSpec)

/-- 'laws.FnExactDivideDues', WHERE WHAT IT READS IS OF BULK AT MOST 1048576: true; the input reads as it did. -/
def fnExactDivideDuesUptoRow : OpenClaim := { program := "ytogjkcakoahpiaa", sum := "af3c1f901e1f1737f819c612eab49f7617a741229e0dcea03aee8af9af614ff8", func := "loop.example/g01032/laws.FnExactDivideDues", spec := "fnExactDivideDues", inPlace := ["internal/reflectlite.ValueOf", "internal/reflectlite.Swapper", "(internal/reflectlite.Value).Len"], unfollowed := true, recurses := true, apart := false, narrowed := true }
def FnExactDivideDuesUptoSaid : Prop := fnExactDivideDuesUptoRow.holds Try.pinned (OpenSpec.upto fnExactDivideDuesSpec)

/-- 'laws.FnExactRouteOf', WHERE WHAT IT READS IS OF BULK AT MOST 1048576: true; the input reads as it did. -/
def fnExactRouteOfUptoRow : OpenClaim := { program := "ytogjkcakoahpiaa", sum := "af3c1f901e1f1737f819c612eab49f7617a741229e0dcea03aee8af9af614ff8", func := "loop.example/g01032/laws.FnExactRouteOf", spec := "fnExactRouteOf", inPlace := ["internal/reflectlite.ValueOf", "internal/reflectlite.Swapper", "(internal/reflectlite.Value).Len"], unfollowed := true, recurses := true, apart := false, narrowed := true }
def FnExactRouteOfUptoSaid : Prop := fnExactRouteOfUptoRow.holds Try.pinned (OpenSpec.upto fnExactRouteOfSpec)

/-- 'laws.FnExactCalledAt', WHERE WHAT IT READS IS OF BULK AT MOST 1048576: true; the input reads as it did. -/
def fnExactCalledAtUptoRow : OpenClaim := { program := "ytogjkcakoahpiaa", sum := "af3c1f901e1f1737f819c612eab49f7617a741229e0dcea03aee8af9af614ff8", func := "loop.example/g01032/laws.FnExactCalledAt", spec := "fnExactCalledAt", unfollowed := true, recurses := true, apart := false, narrowed := true }
def FnExactCalledAtUptoSaid : Prop := fnExactCalledAtUptoRow.holds Try.pinned (OpenSpec.upto fnExactCalledAtSpec)

end Rows
end Go.Proofs.Ytogjkcakoahpiaa
