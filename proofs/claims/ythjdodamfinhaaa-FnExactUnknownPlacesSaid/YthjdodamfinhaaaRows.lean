/-
  No cell of these rows narrows 'for every input' (looked for: loops, veiled, ifaces, maps, wideKeys, modest, calm, conditions, laid).
  DERIVED. THE GIVEN ROWS OF THIS SEAT. 11 by the template 'for every input the law returns true; each argument reads behind the call as it read before'; 0 by the template 'total and deterministic' (their statements: YthjdodamfinhaaaTotals.lean).
  GIVEN WITH THE SEED: the statements are not yours to turn. If you find one false, say at which input.
  Laid BY PROGRAM, IN A SANDBOX (cutbox-rows.mjs): the forced cells as the released guide's own fill.sh prints them over the translation dff0b6769c950d49… (all of the seat's roots in one cut). By AI agents, Wed Nov 11 2026. No macro, syntax, notation, axiom, sorry.
-/
import Derived.Test.YthjdodamfinhaaaChecked
import GoSem.Claim
import GoSem.ClaimJoined
import GoSem.ClaimMapViews
import Derived.JoinedTies
import Derived.KernelRfl
namespace Go.Proofs.Ythjdodamfinhaaa
/- THE CELL 'sum', in the pinned program and in every row, IS THE sha256 OF THE DUMP (.gsa) THAT YthjdodamfinhaaaProg.lean LOADS. Nothing in Lean hashes anything: it is a label: what it is worth is what the hold of that sum in a sandbox is worth. -/
noncomputable def Try.pinned : Pinned := { name := "ythjdodamfinhaaa", sum := "dff0b6769c950d491c746039c3ac4fa9fb7b31c1688400c196d72aa6e8b8a3ae", checked := Try.checked }
namespace Rows
def none {H : Type} : Left H := { results := [], args := [] }

/-- 'laws.FnExactSameGuards': WHATEVER THE INPUT: true; the input reads as it did. -/
def fnExactSameGuardsSpec : ChangeSpec := { name := "fnExactSameGuards", fn := fun _ => fun
  | [d1, d2] => { results := [.lit (.bool true)], args := [d1, d2] }
  | _ => none }
def fnExactSameGuardsRow : OpenClaim := { program := "ythjdodamfinhaaa", sum := "dff0b6769c950d491c746039c3ac4fa9fb7b31c1688400c196d72aa6e8b8a3ae", func := "loop.example/g01032/laws.FnExactSameGuards", spec := "fnExactSameGuards", apart := false }
def FnExactSameGuardsSaid : Prop := fnExactSameGuardsRow.holds Try.pinned (OpenSpec.ofChange fnExactSameGuardsSpec)

/-- ITS FALSE NEIGHBOUR: 'it returns false'. Refute it at one input. -/
def fnExactSameGuardsWrong : ChangeSpec := { name := "fnExactSameGuards", fn := fun _ => fun
  | [d1, d2] => { results := [.lit (.bool false)], args := [d1, d2] }
  | _ => none }
def FnExactSameGuardsWrongFalsely : Prop := fnExactSameGuardsRow.holds Try.pinned (OpenSpec.ofChange fnExactSameGuardsWrong)

/-- 'laws.FnExactValidGuards': WHATEVER THE INPUT: true; the input reads as it did. -/
def fnExactValidGuardsSpec : ChangeSpec := { name := "fnExactValidGuards", fn := fun _ => fun
  | [d] => { results := [.lit (.bool true)], args := [d] }
  | _ => none }
def fnExactValidGuardsRow : OpenClaim := { program := "ythjdodamfinhaaa", sum := "dff0b6769c950d491c746039c3ac4fa9fb7b31c1688400c196d72aa6e8b8a3ae", func := "loop.example/g01032/laws.FnExactValidGuards", spec := "fnExactValidGuards", apart := false }
def FnExactValidGuardsSaid : Prop := fnExactValidGuardsRow.holds Try.pinned (OpenSpec.ofChange fnExactValidGuardsSpec)

/-- ITS FALSE NEIGHBOUR: 'it returns false'. Refute it at one input. -/
def fnExactValidGuardsWrong : ChangeSpec := { name := "fnExactValidGuards", fn := fun _ => fun
  | [d] => { results := [.lit (.bool false)], args := [d] }
  | _ => none }
def FnExactValidGuardsWrongFalsely : Prop := fnExactValidGuardsRow.holds Try.pinned (OpenSpec.ofChange fnExactValidGuardsWrong)

/-- 'laws.FnExactAddGuard': WHATEVER THE INPUT: true; the input reads as it did. -/
def fnExactAddGuardSpec : ChangeSpec := { name := "fnExactAddGuard", fn := fun _ => fun
  | [d1, d2] => { results := [.lit (.bool true)], args := [d1, d2] }
  | _ => none }
def fnExactAddGuardRow : OpenClaim := { program := "ythjdodamfinhaaa", sum := "dff0b6769c950d491c746039c3ac4fa9fb7b31c1688400c196d72aa6e8b8a3ae", func := "loop.example/g01032/laws.FnExactAddGuard", spec := "fnExactAddGuard", unfollowed := true, recurses := true, apart := false }
def FnExactAddGuardSaid : Prop := fnExactAddGuardRow.holds Try.pinned (OpenSpec.ofChange fnExactAddGuardSpec)

/-- ITS FALSE NEIGHBOUR: 'it returns false'. Refute it at one input. -/
def fnExactAddGuardWrong : ChangeSpec := { name := "fnExactAddGuard", fn := fun _ => fun
  | [d1, d2] => { results := [.lit (.bool false)], args := [d1, d2] }
  | _ => none }
def FnExactAddGuardWrongFalsely : Prop := fnExactAddGuardRow.holds Try.pinned (OpenSpec.ofChange fnExactAddGuardWrong)

/-- 'laws.FnExactGuardsAt': WHATEVER THE INPUT: true; the input reads as it did. -/
def fnExactGuardsAtSpec : ChangeSpec := { name := "fnExactGuardsAt", fn := fun _ => fun
  | [d1, d2] => { results := [.lit (.bool true)], args := [d1, d2] }
  | _ => none }
def fnExactGuardsAtRow : OpenClaim := { program := "ythjdodamfinhaaa", sum := "dff0b6769c950d491c746039c3ac4fa9fb7b31c1688400c196d72aa6e8b8a3ae", func := "loop.example/g01032/laws.FnExactGuardsAt", spec := "fnExactGuardsAt", unfollowed := true, recurses := true, apart := false }
def FnExactGuardsAtSaid : Prop := fnExactGuardsAtRow.holds Try.pinned (OpenSpec.ofChange fnExactGuardsAtSpec)

/-- ITS FALSE NEIGHBOUR: 'it returns false'. Refute it at one input. -/
def fnExactGuardsAtWrong : ChangeSpec := { name := "fnExactGuardsAt", fn := fun _ => fun
  | [d1, d2] => { results := [.lit (.bool false)], args := [d1, d2] }
  | _ => none }
def FnExactGuardsAtWrongFalsely : Prop := fnExactGuardsAtRow.holds Try.pinned (OpenSpec.ofChange fnExactGuardsAtWrong)

/-- 'laws.FnExactFewestGuards': WHATEVER THE INPUT: true; the input reads as it did. -/
def fnExactFewestGuardsSpec : ChangeSpec := { name := "fnExactFewestGuards", fn := fun _ => fun
  | [d1, d2] => { results := [.lit (.bool true)], args := [d1, d2] }
  | _ => none }
def fnExactFewestGuardsRow : OpenClaim := { program := "ythjdodamfinhaaa", sum := "dff0b6769c950d491c746039c3ac4fa9fb7b31c1688400c196d72aa6e8b8a3ae", func := "loop.example/g01032/laws.FnExactFewestGuards", spec := "fnExactFewestGuards", unfollowed := true, recurses := true, apart := false }
def FnExactFewestGuardsSaid : Prop := fnExactFewestGuardsRow.holds Try.pinned (OpenSpec.ofChange fnExactFewestGuardsSpec)

/-- ITS FALSE NEIGHBOUR: 'it returns false'. Refute it at one input. -/
def fnExactFewestGuardsWrong : ChangeSpec := { name := "fnExactFewestGuards", fn := fun _ => fun
  | [d1, d2] => { results := [.lit (.bool false)], args := [d1, d2] }
  | _ => none }
def FnExactFewestGuardsWrongFalsely : Prop := fnExactFewestGuardsRow.holds Try.pinned (OpenSpec.ofChange fnExactFewestGuardsWrong)

/-- 'laws.FnExactShiftFault': WHATEVER THE INPUT: true; the input reads as it did. -/
def fnExactShiftFaultSpec : ChangeSpec := { name := "fnExactShiftFault", fn := fun _ => fun
  | [d1, d2, d3] => { results := [.lit (.bool true)], args := [d1, d2, d3] }
  | _ => none }
def fnExactShiftFaultRow : OpenClaim := { program := "ythjdodamfinhaaa", sum := "dff0b6769c950d491c746039c3ac4fa9fb7b31c1688400c196d72aa6e8b8a3ae", func := "loop.example/g01032/laws.FnExactShiftFault", spec := "fnExactShiftFault", unfollowed := true, recurses := true, apart := false }
def FnExactShiftFaultSaid : Prop := fnExactShiftFaultRow.holds Try.pinned (OpenSpec.ofChange fnExactShiftFaultSpec)

/-- ITS FALSE NEIGHBOUR: 'it returns false'. Refute it at one input. -/
def fnExactShiftFaultWrong : ChangeSpec := { name := "fnExactShiftFault", fn := fun _ => fun
  | [d1, d2, d3] => { results := [.lit (.bool false)], args := [d1, d2, d3] }
  | _ => none }
def FnExactShiftFaultWrongFalsely : Prop := fnExactShiftFaultRow.holds Try.pinned (OpenSpec.ofChange fnExactShiftFaultWrong)

/-- 'laws.FnExactPlanWatch': WHATEVER THE INPUT: true; the input reads as it did. -/
def fnExactPlanWatchSpec : ChangeSpec := { name := "fnExactPlanWatch", fn := fun _ => fun
  | [d1, d2, d3, d4, d5] => { results := [.lit (.bool true)], args := [d1, d2, d3, d4, d5] }
  | _ => none }
def fnExactPlanWatchRow : OpenClaim := { program := "ythjdodamfinhaaa", sum := "dff0b6769c950d491c746039c3ac4fa9fb7b31c1688400c196d72aa6e8b8a3ae", func := "loop.example/g01032/laws.FnExactPlanWatch", spec := "fnExactPlanWatch", apart := false }
def FnExactPlanWatchSaid : Prop := fnExactPlanWatchRow.holds Try.pinned (OpenSpec.ofChange fnExactPlanWatchSpec)

/-- ITS FALSE NEIGHBOUR: 'it returns false'. Refute it at one input. -/
def fnExactPlanWatchWrong : ChangeSpec := { name := "fnExactPlanWatch", fn := fun _ => fun
  | [d1, d2, d3, d4, d5] => { results := [.lit (.bool false)], args := [d1, d2, d3, d4, d5] }
  | _ => none }
def FnExactPlanWatchWrongFalsely : Prop := fnExactPlanWatchRow.holds Try.pinned (OpenSpec.ofChange fnExactPlanWatchWrong)

/-- 'laws.FnExactUnknownPlaces': WHATEVER THE INPUT: true; the input reads as it did. -/
def fnExactUnknownPlacesSpec : ChangeSpec := { name := "fnExactUnknownPlaces", fn := fun _ => fun
  | [d1, d2] => { results := [.lit (.bool true)], args := [d1, d2] }
  | _ => none }
def fnExactUnknownPlacesRow : OpenClaim := { program := "ythjdodamfinhaaa", sum := "dff0b6769c950d491c746039c3ac4fa9fb7b31c1688400c196d72aa6e8b8a3ae", func := "loop.example/g01032/laws.FnExactUnknownPlaces", spec := "fnExactUnknownPlaces", unfollowed := true, recurses := true, apart := false }
def FnExactUnknownPlacesSaid : Prop := fnExactUnknownPlacesRow.holds Try.pinned (OpenSpec.ofChange fnExactUnknownPlacesSpec)

/-- ITS FALSE NEIGHBOUR: 'it returns false'. Refute it at one input. -/
def fnExactUnknownPlacesWrong : ChangeSpec := { name := "fnExactUnknownPlaces", fn := fun _ => fun
  | [d1, d2] => { results := [.lit (.bool false)], args := [d1, d2] }
  | _ => none }
def FnExactUnknownPlacesWrongFalsely : Prop := fnExactUnknownPlacesRow.holds Try.pinned (OpenSpec.ofChange fnExactUnknownPlacesWrong)

/-- 'laws.FnExactHoursOf': WHATEVER THE INPUT: true; the input reads as it did. -/
def fnExactHoursOfSpec : ChangeSpec := { name := "fnExactHoursOf", fn := fun _ => fun
  | [d1, d2] => { results := [.lit (.bool true)], args := [d1, d2] }
  | _ => none }
def fnExactHoursOfRow : OpenClaim := { program := "ythjdodamfinhaaa", sum := "dff0b6769c950d491c746039c3ac4fa9fb7b31c1688400c196d72aa6e8b8a3ae", func := "loop.example/g01032/laws.FnExactHoursOf", spec := "fnExactHoursOf", unfollowed := true, recurses := true, apart := false }
def FnExactHoursOfSaid : Prop := fnExactHoursOfRow.holds Try.pinned (OpenSpec.ofChange fnExactHoursOfSpec)

/-- ITS FALSE NEIGHBOUR: 'it returns false'. Refute it at one input. -/
def fnExactHoursOfWrong : ChangeSpec := { name := "fnExactHoursOf", fn := fun _ => fun
  | [d1, d2] => { results := [.lit (.bool false)], args := [d1, d2] }
  | _ => none }
def FnExactHoursOfWrongFalsely : Prop := fnExactHoursOfRow.holds Try.pinned (OpenSpec.ofChange fnExactHoursOfWrong)

/-- 'laws.FnExactWatchersAt': WHATEVER THE INPUT: true; the input reads as it did. -/
def fnExactWatchersAtSpec : ChangeSpec := { name := "fnExactWatchersAt", fn := fun _ => fun
  | [d1, d2, d3] => { results := [.lit (.bool true)], args := [d1, d2, d3] }
  | _ => none }
def fnExactWatchersAtRow : OpenClaim := { program := "ythjdodamfinhaaa", sum := "dff0b6769c950d491c746039c3ac4fa9fb7b31c1688400c196d72aa6e8b8a3ae", func := "loop.example/g01032/laws.FnExactWatchersAt", spec := "fnExactWatchersAt", unfollowed := true, recurses := true, apart := false }
def FnExactWatchersAtSaid : Prop := fnExactWatchersAtRow.holds Try.pinned (OpenSpec.ofChange fnExactWatchersAtSpec)

/-- ITS FALSE NEIGHBOUR: 'it returns false'. Refute it at one input. -/
def fnExactWatchersAtWrong : ChangeSpec := { name := "fnExactWatchersAt", fn := fun _ => fun
  | [d1, d2, d3] => { results := [.lit (.bool false)], args := [d1, d2, d3] }
  | _ => none }
def FnExactWatchersAtWrongFalsely : Prop := fnExactWatchersAtRow.holds Try.pinned (OpenSpec.ofChange fnExactWatchersAtWrong)

/-- 'laws.FnExactUnwatchedHours': WHATEVER THE INPUT: true; the input reads as it did. -/
def fnExactUnwatchedHoursSpec : ChangeSpec := { name := "fnExactUnwatchedHours", fn := fun _ => fun
  | [d1, d2, d3, d4, d5] => { results := [.lit (.bool true)], args := [d1, d2, d3, d4, d5] }
  | _ => none }
def fnExactUnwatchedHoursRow : OpenClaim := { program := "ythjdodamfinhaaa", sum := "dff0b6769c950d491c746039c3ac4fa9fb7b31c1688400c196d72aa6e8b8a3ae", func := "loop.example/g01032/laws.FnExactUnwatchedHours", spec := "fnExactUnwatchedHours", unfollowed := true, recurses := true, apart := false }
def FnExactUnwatchedHoursSaid : Prop := fnExactUnwatchedHoursRow.holds Try.pinned (OpenSpec.ofChange fnExactUnwatchedHoursSpec)

/-- ITS FALSE NEIGHBOUR: 'it returns false'. Refute it at one input. -/
def fnExactUnwatchedHoursWrong : ChangeSpec := { name := "fnExactUnwatchedHours", fn := fun _ => fun
  | [d1, d2, d3, d4, d5] => { results := [.lit (.bool false)], args := [d1, d2, d3, d4, d5] }
  | _ => none }
def FnExactUnwatchedHoursWrongFalsely : Prop := fnExactUnwatchedHoursRow.holds Try.pinned (OpenSpec.ofChange fnExactUnwatchedHoursWrong)

/- THE SECOND FORM. 'bulk': how many values and letters a reading holds, each counted each time it is reached (what is shared counts as often as it is met; a slice's spare places count too). A statement '..UptoSaid' is the law's where the arguments, and the package variables that the reading takes, are together of bulk at most 1048576: NARROWER than '..Said'. Prove '..Said' where nothing that the law and all that it calls make is longer than what came in: it says more and counts as full. Else prove '..UptoSaid'. A law counts once. -/
mutual
def uptoBulk {H : Type} : DataW H → Nat
  | .lit (.string bytes) => bytes.length + 1
  | .lit _ => 1
  | .nil => 1
  | .ptr d => uptoBulk d + 1
  | .slice elems spare => uptoBulkAll elems + uptoBulkAll spare + 1
  | .agg parts => uptoBulkAll parts + 1
  | .iface _ d => uptoBulk d + 1
  | .map entries => uptoBulkEntries entries + 1
  | .held _ => 1
def uptoBulkAll {H : Type} : List (DataW H) → Nat
  | [] => 0
  | d :: r => uptoBulk d + uptoBulkAll r
def uptoBulkEntries {H : Type} : List (Lit × DataW H) → Nat
  | [] => 0
  | x :: r => uptoBulkEntry x + uptoBulkEntries r
def uptoBulkEntry {H : Type} : Lit × DataW H → Nat
  | (.string bytes, d) => bytes.length + uptoBulk d + 1
  | (_, d) => uptoBulk d + 1
 end
def uptoSmall : (H : Type) → List (DataW H) → Bool := fun _ ds => decide (uptoBulkAll ds ≤ 1048576)
def OpenSpec.upto (s : _root_.Go.ChangeSpec) : _root_.Go.OpenSpec := { _root_.Go.OpenSpec.ofChange s with cond := some uptoSmall }

/-- 'laws.FnExactSameGuards', WHERE WHAT IT READS IS OF BULK AT MOST 1048576: true; the input reads as it did. -/
def fnExactSameGuardsUptoRow : OpenClaim := { program := "ythjdodamfinhaaa", sum := "dff0b6769c950d491c746039c3ac4fa9fb7b31c1688400c196d72aa6e8b8a3ae", func := "loop.example/g01032/laws.FnExactSameGuards", spec := "fnExactSameGuards", apart := false, narrowed := true }
def FnExactSameGuardsUptoSaid : Prop := fnExactSameGuardsUptoRow.holds Try.pinned (OpenSpec.upto fnExactSameGuardsSpec)

/-- 'laws.FnExactValidGuards', WHERE WHAT IT READS IS OF BULK AT MOST 1048576: true; the input reads as it did. -/
def fnExactValidGuardsUptoRow : OpenClaim := { program := "ythjdodamfinhaaa", sum := "dff0b6769c950d491c746039c3ac4fa9fb7b31c1688400c196d72aa6e8b8a3ae", func := "loop.example/g01032/laws.FnExactValidGuards", spec := "fnExactValidGuards", apart := false, narrowed := true }
def FnExactValidGuardsUptoSaid : Prop := fnExactValidGuardsUptoRow.holds Try.pinned (OpenSpec.upto fnExactValidGuardsSpec)

/-- 'laws.FnExactAddGuard', WHERE WHAT IT READS IS OF BULK AT MOST 1048576: true; the input reads as it did. -/
def fnExactAddGuardUptoRow : OpenClaim := { program := "ythjdodamfinhaaa", sum := "dff0b6769c950d491c746039c3ac4fa9fb7b31c1688400c196d72aa6e8b8a3ae", func := "loop.example/g01032/laws.FnExactAddGuard", spec := "fnExactAddGuard", unfollowed := true, recurses := true, apart := false, narrowed := true }
def FnExactAddGuardUptoSaid : Prop := fnExactAddGuardUptoRow.holds Try.pinned (OpenSpec.upto fnExactAddGuardSpec)

/-- 'laws.FnExactGuardsAt', WHERE WHAT IT READS IS OF BULK AT MOST 1048576: true; the input reads as it did. -/
def fnExactGuardsAtUptoRow : OpenClaim := { program := "ythjdodamfinhaaa", sum := "dff0b6769c950d491c746039c3ac4fa9fb7b31c1688400c196d72aa6e8b8a3ae", func := "loop.example/g01032/laws.FnExactGuardsAt", spec := "fnExactGuardsAt", unfollowed := true, recurses := true, apart := false, narrowed := true }
def FnExactGuardsAtUptoSaid : Prop := fnExactGuardsAtUptoRow.holds Try.pinned (OpenSpec.upto fnExactGuardsAtSpec)

/-- 'laws.FnExactFewestGuards', WHERE WHAT IT READS IS OF BULK AT MOST 1048576: true; the input reads as it did. -/
def fnExactFewestGuardsUptoRow : OpenClaim := { program := "ythjdodamfinhaaa", sum := "dff0b6769c950d491c746039c3ac4fa9fb7b31c1688400c196d72aa6e8b8a3ae", func := "loop.example/g01032/laws.FnExactFewestGuards", spec := "fnExactFewestGuards", unfollowed := true, recurses := true, apart := false, narrowed := true }
def FnExactFewestGuardsUptoSaid : Prop := fnExactFewestGuardsUptoRow.holds Try.pinned (OpenSpec.upto fnExactFewestGuardsSpec)

/-- 'laws.FnExactShiftFault', WHERE WHAT IT READS IS OF BULK AT MOST 1048576: true; the input reads as it did. -/
def fnExactShiftFaultUptoRow : OpenClaim := { program := "ythjdodamfinhaaa", sum := "dff0b6769c950d491c746039c3ac4fa9fb7b31c1688400c196d72aa6e8b8a3ae", func := "loop.example/g01032/laws.FnExactShiftFault", spec := "fnExactShiftFault", unfollowed := true, recurses := true, apart := false, narrowed := true }
def FnExactShiftFaultUptoSaid : Prop := fnExactShiftFaultUptoRow.holds Try.pinned (OpenSpec.upto fnExactShiftFaultSpec)

/-- 'laws.FnExactPlanWatch', WHERE WHAT IT READS IS OF BULK AT MOST 1048576: true; the input reads as it did. -/
def fnExactPlanWatchUptoRow : OpenClaim := { program := "ythjdodamfinhaaa", sum := "dff0b6769c950d491c746039c3ac4fa9fb7b31c1688400c196d72aa6e8b8a3ae", func := "loop.example/g01032/laws.FnExactPlanWatch", spec := "fnExactPlanWatch", apart := false, narrowed := true }
def FnExactPlanWatchUptoSaid : Prop := fnExactPlanWatchUptoRow.holds Try.pinned (OpenSpec.upto fnExactPlanWatchSpec)

/-- 'laws.FnExactUnknownPlaces', WHERE WHAT IT READS IS OF BULK AT MOST 1048576: true; the input reads as it did. -/
def fnExactUnknownPlacesUptoRow : OpenClaim := { program := "ythjdodamfinhaaa", sum := "dff0b6769c950d491c746039c3ac4fa9fb7b31c1688400c196d72aa6e8b8a3ae", func := "loop.example/g01032/laws.FnExactUnknownPlaces", spec := "fnExactUnknownPlaces", unfollowed := true, recurses := true, apart := false, narrowed := true }
def FnExactUnknownPlacesUptoSaid : Prop := fnExactUnknownPlacesUptoRow.holds Try.pinned (OpenSpec.upto fnExactUnknownPlacesSpec)

/-- 'laws.FnExactHoursOf', WHERE WHAT IT READS IS OF BULK AT MOST 1048576: true; the input reads as it did. -/
def fnExactHoursOfUptoRow : OpenClaim := { program := "ythjdodamfinhaaa", sum := "dff0b6769c950d491c746039c3ac4fa9fb7b31c1688400c196d72aa6e8b8a3ae", func := "loop.example/g01032/laws.FnExactHoursOf", spec := "fnExactHoursOf", unfollowed := true, recurses := true, apart := false, narrowed := true }
def FnExactHoursOfUptoSaid : Prop := fnExactHoursOfUptoRow.holds Try.pinned (OpenSpec.upto fnExactHoursOfSpec)

/-- 'laws.FnExactWatchersAt', WHERE WHAT IT READS IS OF BULK AT MOST 1048576: true; the input reads as it did. -/
def fnExactWatchersAtUptoRow : OpenClaim := { program := "ythjdodamfinhaaa", sum := "dff0b6769c950d491c746039c3ac4fa9fb7b31c1688400c196d72aa6e8b8a3ae", func := "loop.example/g01032/laws.FnExactWatchersAt", spec := "fnExactWatchersAt", unfollowed := true, recurses := true, apart := false, narrowed := true }
def FnExactWatchersAtUptoSaid : Prop := fnExactWatchersAtUptoRow.holds Try.pinned (OpenSpec.upto fnExactWatchersAtSpec)

/-- 'laws.FnExactUnwatchedHours', WHERE WHAT IT READS IS OF BULK AT MOST 1048576: true; the input reads as it did. -/
def fnExactUnwatchedHoursUptoRow : OpenClaim := { program := "ythjdodamfinhaaa", sum := "dff0b6769c950d491c746039c3ac4fa9fb7b31c1688400c196d72aa6e8b8a3ae", func := "loop.example/g01032/laws.FnExactUnwatchedHours", spec := "fnExactUnwatchedHours", unfollowed := true, recurses := true, apart := false, narrowed := true }
def FnExactUnwatchedHoursUptoSaid : Prop := fnExactUnwatchedHoursUptoRow.holds Try.pinned (OpenSpec.upto fnExactUnwatchedHoursSpec)

end Rows
end Go.Proofs.Ythjdodamfinhaaa
