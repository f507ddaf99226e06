/-
  No cell of these rows narrows 'for every input' (looked for: loops, veiled, ifaces, maps, wideKeys, modest, calm, conditions, laid).
  DERIVED. THE GIVEN ROWS OF THIS SEAT. 10 by the template 'for every input the law returns true; each argument reads behind the call as it read before'; 0 by the template 'total and deterministic' (their statements: YtccajbnklegniaaTotals.lean).
  GIVEN WITH THE SEED: the statements are not yours to turn. If you find one false, say at which input.
  Laid BY PROGRAM, IN A SANDBOX (cutbox-rows.mjs): the forced cells as the released guide's own fill.sh prints them over the translation 55c04bb7a524b0be… (all of the seat's roots in one cut). By AI agents, Wed Nov 11 2026. No macro, syntax, notation, axiom, sorry.
-/
import Derived.Test.YtccajbnklegniaaChecked
import GoSem.Claim
import GoSem.ClaimJoined
import GoSem.ClaimMapViews
import Derived.JoinedTies
import Derived.KernelRfl
namespace Go.Proofs.Ytccajbnklegniaa
/- THE CELL 'sum', in the pinned program and in every row, IS THE sha256 OF THE DUMP (.gsa) THAT YtccajbnklegniaaProg.lean LOADS. Nothing in Lean hashes anything: it is a label: what it is worth is what the hold of that sum in a sandbox is worth. -/
noncomputable def Try.pinned : Pinned := { name := "ytccajbnklegniaa", sum := "55c04bb7a524b0be2f8240c0b0f94de7accdea209e251928746e3137d52301d6", checked := Try.checked }
namespace Rows
def none {H : Type} : Left H := { results := [], args := [] }

/-- 'laws.FnExactDaysFor': WHATEVER THE INPUT: true; the input reads as it did. -/
def fnExactDaysForSpec : ChangeSpec := { name := "fnExactDaysFor", fn := fun _ => fun
  | [d] => { results := [.lit (.bool true)], args := [d] }
  | _ => none }
def fnExactDaysForRow : OpenClaim := { program := "ytccajbnklegniaa", sum := "55c04bb7a524b0be2f8240c0b0f94de7accdea209e251928746e3137d52301d6", func := "loop.example/g01032/laws.FnExactDaysFor", spec := "fnExactDaysFor", apart := false }
def FnExactDaysForSaid : Prop := fnExactDaysForRow.holds Try.pinned (OpenSpec.ofChange fnExactDaysForSpec)

/-- ITS FALSE NEIGHBOUR: 'it returns false'. Refute it at one input. -/
def fnExactDaysForWrong : ChangeSpec := { name := "fnExactDaysFor", fn := fun _ => fun
  | [d] => { results := [.lit (.bool false)], args := [d] }
  | _ => none }
def FnExactDaysForWrongFalsely : Prop := fnExactDaysForRow.holds Try.pinned (OpenSpec.ofChange fnExactDaysForWrong)

/-- 'laws.FnExactSameDefects': WHATEVER THE INPUT: true; the input reads as it did. -/
def fnExactSameDefectsSpec : ChangeSpec := { name := "fnExactSameDefects", fn := fun _ => fun
  | [d1, d2] => { results := [.lit (.bool true)], args := [d1, d2] }
  | _ => none }
def fnExactSameDefectsRow : OpenClaim := { program := "ytccajbnklegniaa", sum := "55c04bb7a524b0be2f8240c0b0f94de7accdea209e251928746e3137d52301d6", func := "loop.example/g01032/laws.FnExactSameDefects", spec := "fnExactSameDefects", apart := false }
def FnExactSameDefectsSaid : Prop := fnExactSameDefectsRow.holds Try.pinned (OpenSpec.ofChange fnExactSameDefectsSpec)

/-- ITS FALSE NEIGHBOUR: 'it returns false'. Refute it at one input. -/
def fnExactSameDefectsWrong : ChangeSpec := { name := "fnExactSameDefects", fn := fun _ => fun
  | [d1, d2] => { results := [.lit (.bool false)], args := [d1, d2] }
  | _ => none }
def FnExactSameDefectsWrongFalsely : Prop := fnExactSameDefectsRow.holds Try.pinned (OpenSpec.ofChange fnExactSameDefectsWrong)

/-- 'laws.FnExactValidDefects': WHATEVER THE INPUT: true; the input reads as it did. -/
def fnExactValidDefectsSpec : ChangeSpec := { name := "fnExactValidDefects", fn := fun _ => fun
  | [d] => { results := [.lit (.bool true)], args := [d] }
  | _ => none }
def fnExactValidDefectsRow : OpenClaim := { program := "ytccajbnklegniaa", sum := "55c04bb7a524b0be2f8240c0b0f94de7accdea209e251928746e3137d52301d6", func := "loop.example/g01032/laws.FnExactValidDefects", spec := "fnExactValidDefects", unfollowed := true, recurses := true, apart := false }
def FnExactValidDefectsSaid : Prop := fnExactValidDefectsRow.holds Try.pinned (OpenSpec.ofChange fnExactValidDefectsSpec)

/-- ITS FALSE NEIGHBOUR: 'it returns false'. Refute it at one input. -/
def fnExactValidDefectsWrong : ChangeSpec := { name := "fnExactValidDefects", fn := fun _ => fun
  | [d] => { results := [.lit (.bool false)], args := [d] }
  | _ => none }
def FnExactValidDefectsWrongFalsely : Prop := fnExactValidDefectsRow.holds Try.pinned (OpenSpec.ofChange fnExactValidDefectsWrong)

/-- 'laws.FnExactCountKinds': WHATEVER THE INPUT: true; the input reads as it did. -/
def fnExactCountKindsSpec : ChangeSpec := { name := "fnExactCountKinds", fn := fun _ => fun
  | [d] => { results := [.lit (.bool true)], args := [d] }
  | _ => none }
def fnExactCountKindsRow : OpenClaim := { program := "ytccajbnklegniaa", sum := "55c04bb7a524b0be2f8240c0b0f94de7accdea209e251928746e3137d52301d6", func := "loop.example/g01032/laws.FnExactCountKinds", spec := "fnExactCountKinds", unfollowed := true, recurses := true, apart := false }
def FnExactCountKindsSaid : Prop := fnExactCountKindsRow.holds Try.pinned (OpenSpec.ofChange fnExactCountKindsSpec)

/-- ITS FALSE NEIGHBOUR: 'it returns false'. Refute it at one input. -/
def fnExactCountKindsWrong : ChangeSpec := { name := "fnExactCountKinds", fn := fun _ => fun
  | [d] => { results := [.lit (.bool false)], args := [d] }
  | _ => none }
def FnExactCountKindsWrongFalsely : Prop := fnExactCountKindsRow.holds Try.pinned (OpenSpec.ofChange fnExactCountKindsWrong)

/-- 'laws.FnExactMendDefect': WHATEVER THE INPUT: true; the input reads as it did. -/
def fnExactMendDefectSpec : ChangeSpec := { name := "fnExactMendDefect", fn := fun _ => fun
  | [d1, d2, d3] => { results := [.lit (.bool true)], args := [d1, d2, d3] }
  | _ => none }
def fnExactMendDefectRow : OpenClaim := { program := "ytccajbnklegniaa", sum := "55c04bb7a524b0be2f8240c0b0f94de7accdea209e251928746e3137d52301d6", func := "loop.example/g01032/laws.FnExactMendDefect", spec := "fnExactMendDefect", unfollowed := true, recurses := true, apart := false }
def FnExactMendDefectSaid : Prop := fnExactMendDefectRow.holds Try.pinned (OpenSpec.ofChange fnExactMendDefectSpec)

/-- ITS FALSE NEIGHBOUR: 'it returns false'. Refute it at one input. -/
def fnExactMendDefectWrong : ChangeSpec := { name := "fnExactMendDefect", fn := fun _ => fun
  | [d1, d2, d3] => { results := [.lit (.bool false)], args := [d1, d2, d3] }
  | _ => none }
def FnExactMendDefectWrongFalsely : Prop := fnExactMendDefectRow.holds Try.pinned (OpenSpec.ofChange fnExactMendDefectWrong)

/-- 'laws.FnExactAddDefect': WHATEVER THE INPUT: true; the input reads as it did. -/
def fnExactAddDefectSpec : ChangeSpec := { name := "fnExactAddDefect", fn := fun _ => fun
  | [d1, d2] => { results := [.lit (.bool true)], args := [d1, d2] }
  | _ => none }
def fnExactAddDefectRow : OpenClaim := { program := "ytccajbnklegniaa", sum := "55c04bb7a524b0be2f8240c0b0f94de7accdea209e251928746e3137d52301d6", func := "loop.example/g01032/laws.FnExactAddDefect", spec := "fnExactAddDefect", unfollowed := true, recurses := true, apart := false }
def FnExactAddDefectSaid : Prop := fnExactAddDefectRow.holds Try.pinned (OpenSpec.ofChange fnExactAddDefectSpec)

/-- ITS FALSE NEIGHBOUR: 'it returns false'. Refute it at one input. -/
def fnExactAddDefectWrong : ChangeSpec := { name := "fnExactAddDefect", fn := fun _ => fun
  | [d1, d2] => { results := [.lit (.bool false)], args := [d1, d2] }
  | _ => none }
def FnExactAddDefectWrongFalsely : Prop := fnExactAddDefectRow.holds Try.pinned (OpenSpec.ofChange fnExactAddDefectWrong)

/-- 'laws.FnExactRouteMetres': WHATEVER THE INPUT: true; the input reads as it did. -/
def fnExactRouteMetresSpec : ChangeSpec := { name := "fnExactRouteMetres", fn := fun _ => fun
  | [d1, d2, d3] => { results := [.lit (.bool true)], args := [d1, d2, d3] }
  | _ => none }
def fnExactRouteMetresRow : OpenClaim := { program := "ytccajbnklegniaa", sum := "55c04bb7a524b0be2f8240c0b0f94de7accdea209e251928746e3137d52301d6", func := "loop.example/g01032/laws.FnExactRouteMetres", spec := "fnExactRouteMetres", unfollowed := true, recurses := true, apart := false }
def FnExactRouteMetresSaid : Prop := fnExactRouteMetresRow.holds Try.pinned (OpenSpec.ofChange fnExactRouteMetresSpec)

/-- ITS FALSE NEIGHBOUR: 'it returns false'. Refute it at one input. -/
def fnExactRouteMetresWrong : ChangeSpec := { name := "fnExactRouteMetres", fn := fun _ => fun
  | [d1, d2, d3] => { results := [.lit (.bool false)], args := [d1, d2, d3] }
  | _ => none }
def FnExactRouteMetresWrongFalsely : Prop := fnExactRouteMetresRow.holds Try.pinned (OpenSpec.ofChange fnExactRouteMetresWrong)

/-- 'laws.FnExactWorstStretch': WHATEVER THE INPUT: true; the input reads as it did. -/
def fnExactWorstStretchSpec : ChangeSpec := { name := "fnExactWorstStretch", fn := fun _ => fun
  | [d1, d2, d3] => { results := [.lit (.bool true)], args := [d1, d2, d3] }
  | _ => none }
def fnExactWorstStretchRow : OpenClaim := { program := "ytccajbnklegniaa", sum := "55c04bb7a524b0be2f8240c0b0f94de7accdea209e251928746e3137d52301d6", func := "loop.example/g01032/laws.FnExactWorstStretch", spec := "fnExactWorstStretch", unfollowed := true, recurses := true, apart := false }
def FnExactWorstStretchSaid : Prop := fnExactWorstStretchRow.holds Try.pinned (OpenSpec.ofChange fnExactWorstStretchSpec)

/-- ITS FALSE NEIGHBOUR: 'it returns false'. Refute it at one input. -/
def fnExactWorstStretchWrong : ChangeSpec := { name := "fnExactWorstStretch", fn := fun _ => fun
  | [d1, d2, d3] => { results := [.lit (.bool false)], args := [d1, d2, d3] }
  | _ => none }
def FnExactWorstStretchWrongFalsely : Prop := fnExactWorstStretchRow.holds Try.pinned (OpenSpec.ofChange fnExactWorstStretchWrong)

/-- 'laws.FnExactOpenDefects': WHATEVER THE INPUT: true; the input reads as it did. -/
def fnExactOpenDefectsSpec : ChangeSpec := { name := "fnExactOpenDefects", fn := fun _ => fun
  | [d1, d2] => { results := [.lit (.bool true)], args := [d1, d2] }
  | _ => none }
def fnExactOpenDefectsRow : OpenClaim := { program := "ytccajbnklegniaa", sum := "55c04bb7a524b0be2f8240c0b0f94de7accdea209e251928746e3137d52301d6", func := "loop.example/g01032/laws.FnExactOpenDefects", spec := "fnExactOpenDefects", unfollowed := true, recurses := true, apart := false }
def FnExactOpenDefectsSaid : Prop := fnExactOpenDefectsRow.holds Try.pinned (OpenSpec.ofChange fnExactOpenDefectsSpec)

/-- ITS FALSE NEIGHBOUR: 'it returns false'. Refute it at one input. -/
def fnExactOpenDefectsWrong : ChangeSpec := { name := "fnExactOpenDefects", fn := fun _ => fun
  | [d1, d2] => { results := [.lit (.bool false)], args := [d1, d2] }
  | _ => none }
def FnExactOpenDefectsWrongFalsely : Prop := fnExactOpenDefectsRow.holds Try.pinned (OpenSpec.ofChange fnExactOpenDefectsWrong)

/-- 'laws.FnExactLateDefects': WHATEVER THE INPUT: true; the input reads as it did. -/
def fnExactLateDefectsSpec : ChangeSpec := { name := "fnExactLateDefects", fn := fun _ => fun
  | [d1, d2] => { results := [.lit (.bool true)], args := [d1, d2] }
  | _ => none }
def fnExactLateDefectsRow : OpenClaim := { program := "ytccajbnklegniaa", sum := "55c04bb7a524b0be2f8240c0b0f94de7accdea209e251928746e3137d52301d6", func := "loop.example/g01032/laws.FnExactLateDefects", spec := "fnExactLateDefects", unfollowed := true, recurses := true, apart := false }
def FnExactLateDefectsSaid : Prop := fnExactLateDefectsRow.holds Try.pinned (OpenSpec.ofChange fnExactLateDefectsSpec)

/-- ITS FALSE NEIGHBOUR: 'it returns false'. Refute it at one input. -/
def fnExactLateDefectsWrong : ChangeSpec := { name := "fnExactLateDefects", fn := fun _ => fun
  | [d1, d2] => { results := [.lit (.bool false)], args := [d1, d2] }
  | _ => none }
def FnExactLateDefectsWrongFalsely : Prop := fnExactLateDefectsRow.holds Try.pinned (OpenSpec.ofChange fnExactLateDefectsWrong)

/- THE SECOND FORM. 'bulk': how many values and letters a reading holds, each counted each time it is reached (what is shared counts as often as it is met; a slice's spare places count too). A statement '..UptoSaid' is the law's where the arguments, and the package variables that the reading takes, are together of bulk at most 1048576: NARROWER than '..Said'. Prove '..Said' where nothing that the law and all that it calls make is longer than what came in: it says more and counts as full. Else prove '..UptoSaid'. A law counts once. -/
mutual
def uptoBulk {H : Type} : DataW H → Nat
  | .lit (.string bytes) => bytes.length + 1
  | .lit _ => 1
  | .nil => 1
  | .ptr d => uptoBulk d + 1
  | .slice elems spare => uptoBulkAll elems + uptoBulkAll spare + 1
  | .agg parts => uptoBulkAll parts + 1
  | .iface _ d => uptoBulk d + 1
  | .map entries => uptoBulkEntries entries + 1
  | .held _ => 1
def uptoBulkAll {H : Type} : List (DataW H) → Nat
  | [] => 0
  | d :: r => uptoBulk d + uptoBulkAll r
def uptoBulkEntries {H : Type} : List (Lit × DataW H) → Nat
  | [] => 0
  | x :: r => uptoBulkEntry x + uptoBulkEntries r
def uptoBulkEntry {H : Type} : Lit × DataW H → Nat
  | (.string bytes, d) => bytes.length + uptoBulk d + 1
  | (_, d) => uptoBulk d + 1
 end
def uptoSmall : (H : Type) → List (DataW H) → Bool := fun _ ds => decide (uptoBulkAll ds ≤ 1048576)
def OpenSpec.upto (s : _root_.Go.ChangeSpec) : _root_.Go.OpenSpec := { _root_.Go.OpenSpec.ofChange s with cond := some uptoSmall }

/-- 'laws.FnExactDaysFor', WHERE WHAT IT READS IS OF BULK AT MOST 1048576: true; the input reads as it did. -/
def fnExactDaysForUptoRow : OpenClaim := { program := "ytccajbnklegniaa", sum := "55c04bb7a524b0be2f8240c0b0f94de7accdea209e251928746e3137d52301d6", func := "loop.example/g01032/laws.FnExactDaysFor", spec := "fnExactDaysFor", apart := false, narrowed := true }
def FnExactDaysForUptoSaid : Prop := fnExactDaysForUptoRow.holds Try.pinned (OpenSpec.upto fnExactDaysForSpec)

/-- 'laws.FnExactSameDefects', WHERE WHAT IT READS IS OF BULK AT MOST 1048576: true; the input reads as it did. -/
def fnExactSameDefectsUptoRow : OpenClaim := { program := "ytccajbnklegniaa", sum := "55c04bb7a524b0be2f8240c0b0f94de7accdea209e251928746e3137d52301d6", func := "loop.example/g01032/laws.FnExactSameDefects", spec := "fnExactSameDefects", apart := false, narrowed := true }
def FnExactSameDefectsUptoSaid : Prop := fnExactSameDefectsUptoRow.holds Try.pinned (OpenSpec.upto fnExactSameDefectsSpec)

/-- 'laws.FnExactValidDefects', WHERE WHAT IT READS IS OF BULK AT MOST 1048576: true; the input reads as it did. -/
def fnExactValidDefectsUptoRow : OpenClaim := { program := "ytccajbnklegniaa", sum := "55c04bb7a524b0be2f8240c0b0f94de7accdea209e251928746e3137d52301d6", func := "loop.example/g01032/laws.FnExactValidDefects", spec := "fnExactValidDefects", unfollowed := true, recurses := true, apart := false, narrowed := true }
def FnExactValidDefectsUptoSaid : Prop := fnExactValidDefectsUptoRow.holds Try.pinned (OpenSpec.upto fnExactValidDefectsSpec)

/-- 'laws.FnExactCountKinds', WHERE WHAT IT READS IS OF BULK AT MOST 1048576: true; the input reads as it did. -/
def fnExactCountKindsUptoRow : OpenClaim := { program := "ytccajbnklegniaa", sum := "55c04bb7a524b0be2f8240c0b0f94de7accdea209e251928746e3137d52301d6", func := "loop.example/g01032/laws.FnExactCountKinds", spec := "fnExactCountKinds", unfollowed := true, recurses := true, apart := false, narrowed := true }
def FnExactCountKindsUptoSaid : Prop := fnExactCountKindsUptoRow.holds Try.pinned (OpenSpec.upto fnExactCountKindsSpec)

/-- 'laws.FnExactMendDefect', WHERE WHAT IT READS IS OF BULK AT MOST 1048576: true; the input reads as it did. -/
def fnExactMendDefectUptoRow : OpenClaim := { program := "ytccajbnklegniaa", sum := "55c04bb7a524b0be2f8240c0b0f94de7accdea209e251928746e3137d52301d6", func := "loop.example/g01032/laws.FnExactMendDefect", spec := "fnExactMendDefect", unfollowed := true, recurses := true, apart := false, narrowed := true }
def FnExactMendDefectUptoSaid : Prop := fnExactMendDefectUptoRow.holds Try.pinned (OpenSpec.upto fnExactMendDefectSpec)

/-- 'laws.FnExactAddDefect', WHERE WHAT IT READS IS OF BULK AT MOST 1048576: true; the input reads as it did. -/
def fnExactAddDefectUptoRow : OpenClaim := { program := "ytccajbnklegniaa", sum := "55c04bb7a524b0be2f8240c0b0f94de7accdea209e251928746e3137d52301d6", func := "loop.example/g01032/laws.FnExactAddDefect", spec := "fnExactAddDefect", unfollowed := true, recurses := true, apart := false, narrowed := true }
def FnExactAddDefectUptoSaid : Prop := fnExactAddDefectUptoRow.holds Try.pinned (OpenSpec.upto fnExactAddDefectSpec)

/-- 'laws.FnExactRouteMetres', WHERE WHAT IT READS IS OF BULK AT MOST 1048576: true; the input reads as it did. -/
def fnExactRouteMetresUptoRow : OpenClaim := { program := "ytccajbnklegniaa", sum := "55c04bb7a524b0be2f8240c0b0f94de7accdea209e251928746e3137d52301d6", func := "loop.example/g01032/laws.FnExactRouteMetres", spec := "fnExactRouteMetres", unfollowed := true, recurses := true, apart := false, narrowed := true }
def FnExactRouteMetresUptoSaid : Prop := fnExactRouteMetresUptoRow.holds Try.pinned (OpenSpec.upto fnExactRouteMetresSpec)

/-- 'laws.FnExactWorstStretch', WHERE WHAT IT READS IS OF BULK AT MOST 1048576: true; the input reads as it did. -/
def fnExactWorstStretchUptoRow : OpenClaim := { program := "ytccajbnklegniaa", sum := "55c04bb7a524b0be2f8240c0b0f94de7accdea209e251928746e3137d52301d6", func := "loop.example/g01032/laws.FnExactWorstStretch", spec := "fnExactWorstStretch", unfollowed := true, recurses := true, apart := false, narrowed := true }
def FnExactWorstStretchUptoSaid : Prop := fnExactWorstStretchUptoRow.holds Try.pinned (OpenSpec.upto fnExactWorstStretchSpec)

/-- 'laws.FnExactOpenDefects', WHERE WHAT IT READS IS OF BULK AT MOST 1048576: true; the input reads as it did. -/
def fnExactOpenDefectsUptoRow : OpenClaim := { program := "ytccajbnklegniaa", sum := "55c04bb7a524b0be2f8240c0b0f94de7accdea209e251928746e3137d52301d6", func := "loop.example/g01032/laws.FnExactOpenDefects", spec := "fnExactOpenDefects", unfollowed := true, recurses := true, apart := false, narrowed := true }
def FnExactOpenDefectsUptoSaid : Prop := fnExactOpenDefectsUptoRow.holds Try.pinned (OpenSpec.upto fnExactOpenDefectsSpec)

/-- 'laws.FnExactLateDefects', WHERE WHAT IT READS IS OF BULK AT MOST 1048576: true; the input reads as it did. -/
def fnExactLateDefectsUptoRow : OpenClaim := { program := "ytccajbnklegniaa", sum := "55c04bb7a524b0be2f8240c0b0f94de7accdea209e251928746e3137d52301d6", func := "loop.example/g01032/laws.FnExactLateDefects", spec := "fnExactLateDefects", unfollowed := true, recurses := true, apart := false, narrowed := true }
def FnExactLateDefectsUptoSaid : Prop := fnExactLateDefectsUptoRow.holds Try.pinned (OpenSpec.upto fnExactLateDefectsSpec)

end Rows
end Go.Proofs.Ytccajbnklegniaa
