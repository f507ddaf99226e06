/-
  No cell of these rows narrows 'for every input' (looked for: loops, veiled, ifaces, maps, wideKeys, modest, calm, conditions, laid).
  DERIVED. THE GIVEN ROWS OF THIS SEAT. 3 by the template 'for every input the law returns true; each argument reads behind the call as it read before'; 0 by the template 'total and deterministic' (their statements: YtgbblcbpmpokdaaTotals.lean).
  GIVEN WITH THE SEED: the statements are not yours to turn. If you find one false, say at which input.
  Laid BY PROGRAM, IN A SANDBOX (cutbox-rows.mjs): the forced cells as the released guide's own fill.sh prints them over the translation 09ba935a6a0b0ce2… (all of the seat's roots in one cut). By AI agents, Wed Nov 11 2026. No macro, syntax, notation, axiom, sorry.
-/
import Derived.Test.YtgbblcbpmpokdaaChecked
import GoSem.Claim
import GoSem.ClaimJoined
import GoSem.ClaimMapViews
import Derived.JoinedTies
import Derived.KernelRfl
namespace Go.Proofs.Ytgbblcbpmpokdaa
/- THE CELL 'sum', in the pinned program and in every row, IS THE sha256 OF THE DUMP (.gsa) THAT YtgbblcbpmpokdaaProg.lean LOADS. Nothing in Lean hashes anything: it is a label: what it is worth is what the hold of that sum in a sandbox is worth. -/
noncomputable def Try.pinned : Pinned := { name := "ytgbblcbpmpokdaa", sum := "09ba935a6a0b0ce27748868e4fc5d28a5ee13fc5b5f2446c61e10da2fa71bcaa", checked := Try.checked }
namespace Rows
def none {H : Type} : Left H := { results := [], args := [] }

/-- 'laws.FnExactDivideDues': WHATEVER THE INPUT: true; the input reads as it did. -/
def fnExactDivideDuesSpec : ChangeSpec := { name := "fnExactDivideDues", fn := fun _ => fun
  | [d1, d2, d3] => { results := [.lit (.bool true)], args := [d1, d2, d3] }
  | _ => none }
def fnExactDivideDuesRow : OpenClaim := { program := "ytgbblcbpmpokdaa", sum := "09ba935a6a0b0ce27748868e4fc5d28a5ee13fc5b5f2446c61e10da2fa71bcaa", func := "loop.example/g01032/laws.FnExactDivideDues", spec := "fnExactDivideDues", inPlace := ["internal/reflectlite.ValueOf", "internal/reflectlite.Swapper", "(internal/reflectlite.Value).Len"], unfollowed := true, recurses := true, apart := false }
def FnExactDivideDuesSaid : Prop := fnExactDivideDuesRow.holds Try.pinned (OpenSpec.ofChange fnExactDivideDuesSpec)

/-- ITS FALSE NEIGHBOUR: 'it returns false'. Refute it at one input. -/
def fnExactDivideDuesWrong : ChangeSpec := { name := "fnExactDivideDues", fn := fun _ => fun
  | [d1, d2, d3] => { results := [.lit (.bool false)], args := [d1, d2, d3] }
  | _ => none }
def FnExactDivideDuesWrongFalsely : Prop := fnExactDivideDuesRow.holds Try.pinned (OpenSpec.ofChange fnExactDivideDuesWrong)

/-- 'laws.FnExactRouteOf': WHATEVER THE INPUT: true; the input reads as it did. -/
def fnExactRouteOfSpec : ChangeSpec := { name := "fnExactRouteOf", fn := fun _ => fun
  | [d1, d2, d3] => { results := [.lit (.bool true)], args := [d1, d2, d3] }
  | _ => none }
def fnExactRouteOfRow : OpenClaim := { program := "ytgbblcbpmpokdaa", sum := "09ba935a6a0b0ce27748868e4fc5d28a5ee13fc5b5f2446c61e10da2fa71bcaa", func := "loop.example/g01032/laws.FnExactRouteOf", spec := "fnExactRouteOf", inPlace := ["internal/reflectlite.ValueOf", "internal/reflectlite.Swapper", "(internal/reflectlite.Value).Len"], unfollowed := true, recurses := true, apart := false }
def FnExactRouteOfSaid : Prop := fnExactRouteOfRow.holds Try.pinned (OpenSpec.ofChange fnExactRouteOfSpec)

/-- ITS FALSE NEIGHBOUR: 'it returns false'. Refute it at one input. -/
def fnExactRouteOfWrong : ChangeSpec := { name := "fnExactRouteOf", fn := fun _ => fun
  | [d1, d2, d3] => { results := [.lit (.bool false)], args := [d1, d2, d3] }
  | _ => none }
def FnExactRouteOfWrongFalsely : Prop := fnExactRouteOfRow.holds Try.pinned (OpenSpec.ofChange fnExactRouteOfWrong)

/-- 'laws.FnExactCalledAt': WHATEVER THE INPUT: true; the input reads as it did. -/
def fnExactCalledAtSpec : ChangeSpec := { name := "fnExactCalledAt", fn := fun _ => fun
  | [d1, d2] => { results := [.lit (.bool true)], args := [d1, d2] }
  | _ => none }
def fnExactCalledAtRow : OpenClaim := { program := "ytgbblcbpmpokdaa", sum := "09ba935a6a0b0ce27748868e4fc5d28a5ee13fc5b5f2446c61e10da2fa71bcaa", func := "loop.example/g01032/laws.FnExactCalledAt", spec := "fnExactCalledAt", unfollowed := true, recurses := true, apart := false }
def FnExactCalledAtSaid : Prop := fnExactCalledAtRow.holds Try.pinned (OpenSpec.ofChange fnExactCalledAtSpec)

/-- ITS FALSE NEIGHBOUR: 'it returns false'. Refute it at one input. -/
def fnExactCalledAtWrong : ChangeSpec := { name := "fnExactCalledAt", fn := fun _ => fun
  | [d1, d2] => { results := [.lit (.bool false)], args := [d1, d2] }
  | _ => none }
def FnExactCalledAtWrongFalsely : Prop := fnExactCalledAtRow.holds Try.pinned (OpenSpec.ofChange fnExactCalledAtWrong)

/- THE SECOND FORM. 'bulk': how many values and letters a reading holds, each counted each time it is reached (what is shared counts as often as it is met; a slice's spare places count too). A statement '..UptoSaid' is the law's where the arguments, and the package variables that the reading takes, are together of bulk at most 1048576: NARROWER than '..Said'. Prove '..Said' where nothing that the law and all that it calls make is longer than what came in: it says more and counts as full. Else prove '..UptoSaid'. A law counts once. -/
mutual
def uptoBulk {H : Type} : DataW H → Nat
  | .lit (.string bytes) => bytes.length + 1
  | .lit _ => 1
  | .nil => 1
  | .ptr d => uptoBulk d + 1
  | .slice elems spare => uptoBulkAll elems + uptoBulkAll spare + 1
  | .agg parts => uptoBulkAll parts + 1
  | .iface _ d => uptoBulk d + 1
  | .map entries => uptoBulkEntries entries + 1
  | .held _ => 1
def uptoBulkAll {H : Type} : List (DataW H) → Nat
  | [] => 0
  | d :: r => uptoBulk d + uptoBulkAll r
def uptoBulkEntries {H : Type} : List (Lit × DataW H) → Nat
  | [] => 0
  | x :: r => uptoBulkEntry x + uptoBulkEntries r
def uptoBulkEntry {H : Type} : Lit × DataW H → Nat
  | (.string bytes, d) => bytes.length + uptoBulk d + 1
  | (_, d) => uptoBulk d + 1
 end
def uptoSmall : (H : Type) → List (DataW H) → Bool := fun _ ds => decide (uptoBulkAll ds ≤ 1048576)
def OpenSpec.upto (s : _root_.Go.ChangeSpec) : _root_.Go.OpenSpec := { _root_.Go.OpenSpec.ofChange s with cond := some uptoSmall }

/-- 'laws.FnExactDivideDues', WHERE WHAT IT READS IS OF BULK AT MOST 1048576: true; the input reads as it did. -/
def fnExactDivideDuesUptoRow : OpenClaim := { program := "ytgbblcbpmpokdaa", sum := "09ba935a6a0b0ce27748868e4fc5d28a5ee13fc5b5f2446c61e10da2fa71bcaa", func := "loop.example/g01032/laws.FnExactDivideDues", spec := "fnExactDivideDues", inPlace := ["internal/reflectlite.ValueOf", "internal/reflectlite.Swapper", "(internal/reflectlite.Value).Len"], unfollowed := true, recurses := true, apart := false, narrowed := true }
def FnExactDivideDuesUptoSaid : Prop := fnExactDivideDuesUptoRow.holds Try.pinned (OpenSpec.upto fnExactDivideDuesSpec)

/-- 'laws.FnExactRouteOf', WHERE WHAT IT READS IS OF BULK AT MOST 1048576: true; the input reads as it did. -/
def fnExactRouteOfUptoRow : OpenClaim := { program := "ytgbblcbpmpokdaa", sum := "09ba935a6a0b0ce27748868e4fc5d28a5ee13fc5b5f2446c61e10da2fa71bcaa", func := "loop.example/g01032/laws.FnExactRouteOf", spec := "fnExactRouteOf", inPlace := ["internal/reflectlite.ValueOf", "internal/reflectlite.Swapper", "(internal/reflectlite.Value).Len"], unfollowed := true, recurses := true, apart := false, narrowed := true }
def FnExactRouteOfUptoSaid : Prop := fnExactRouteOfUptoRow.holds Try.pinned (OpenSpec.upto fnExactRouteOfSpec)

/-- 'laws.FnExactCalledAt', WHERE WHAT IT READS IS OF BULK AT MOST 1048576: true; the input reads as it did. -/
def fnExactCalledAtUptoRow : OpenClaim := { program := "ytgbblcbpmpokdaa", sum := "09ba935a6a0b0ce27748868e4fc5d28a5ee13fc5b5f2446c61e10da2fa71bcaa", func := "loop.example/g01032/laws.FnExactCalledAt", spec := "fnExactCalledAt", unfollowed := true, recurses := true, apart := false, narrowed := true }
def FnExactCalledAtUptoSaid : Prop := fnExactCalledAtUptoRow.holds Try.pinned (OpenSpec.upto fnExactCalledAtSpec)

end Rows
end Go.Proofs.Ytgbblcbpmpokdaa
