/-
  No cell of these rows narrows 'for every input' (looked for: loops, veiled, ifaces, maps, wideKeys, modest, calm, conditions, laid).
  DERIVED. THE GIVEN ROWS OF THIS SEAT. 11 by the template 'for every input the law returns true; each argument reads behind the call as it read before'; 0 by the template 'total and deterministic' (their statements: YtiibamemkmffoaaTotals.lean).
  GIVEN WITH THE SEED: the statements are not yours to turn. If you find one false, say at which input.
  Laid BY PROGRAM, IN A SANDBOX (cutbox-rows.mjs): the forced cells as the released guide's own fill.sh prints them over the translation 17cc3f0868d12482… (all of the seat's roots in one cut). By AI agents, Wed Nov 11 2026. No macro, syntax, notation, axiom, sorry.
-/
import Derived.Test.YtiibamemkmffoaaChecked
import GoSem.Claim
import GoSem.ClaimJoined
import GoSem.ClaimMapViews
import Derived.JoinedTies
import Derived.KernelRfl
namespace Go.Proofs.Ytiibamemkmffoaa
/- THE CELL 'sum', in the pinned program and in every row, IS THE sha256 OF THE DUMP (.gsa) THAT YtiibamemkmffoaaProg.lean LOADS. Nothing in Lean hashes anything: it is a label: what it is worth is what the hold of that sum in a sandbox is worth. -/
noncomputable def Try.pinned : Pinned := { name := "ytiibamemkmffoaa", sum := "17cc3f0868d12482a67c85aa89d6ba3b09a26a8957cf23123c2bed35c4dfacdc", checked := Try.checked }
namespace Rows
def none {H : Type} : Left H := { results := [], args := [] }

/-- 'laws.FnExactSameParcels': WHATEVER THE INPUT: true; the input reads as it did. -/
def fnExactSameParcelsSpec : ChangeSpec := { name := "fnExactSameParcels", fn := fun _ => fun
  | [d1, d2] => { results := [.lit (.bool true)], args := [d1, d2] }
  | _ => none }
def fnExactSameParcelsRow : OpenClaim := { program := "ytiibamemkmffoaa", sum := "17cc3f0868d12482a67c85aa89d6ba3b09a26a8957cf23123c2bed35c4dfacdc", func := "loop.example/g01032/laws.FnExactSameParcels", spec := "fnExactSameParcels", apart := false }
def FnExactSameParcelsSaid : Prop := fnExactSameParcelsRow.holds Try.pinned (OpenSpec.ofChange fnExactSameParcelsSpec)

/-- ITS FALSE NEIGHBOUR: 'it returns false'. Refute it at one input. -/
def fnExactSameParcelsWrong : ChangeSpec := { name := "fnExactSameParcels", fn := fun _ => fun
  | [d1, d2] => { results := [.lit (.bool false)], args := [d1, d2] }
  | _ => none }
def FnExactSameParcelsWrongFalsely : Prop := fnExactSameParcelsRow.holds Try.pinned (OpenSpec.ofChange fnExactSameParcelsWrong)

/-- 'laws.FnExactValidParcels': WHATEVER THE INPUT: true; the input reads as it did. -/
def fnExactValidParcelsSpec : ChangeSpec := { name := "fnExactValidParcels", fn := fun _ => fun
  | [d] => { results := [.lit (.bool true)], args := [d] }
  | _ => none }
def fnExactValidParcelsRow : OpenClaim := { program := "ytiibamemkmffoaa", sum := "17cc3f0868d12482a67c85aa89d6ba3b09a26a8957cf23123c2bed35c4dfacdc", func := "loop.example/g01032/laws.FnExactValidParcels", spec := "fnExactValidParcels", unfollowed := true, recurses := true, apart := false }
def FnExactValidParcelsSaid : Prop := fnExactValidParcelsRow.holds Try.pinned (OpenSpec.ofChange fnExactValidParcelsSpec)

/-- ITS FALSE NEIGHBOUR: 'it returns false'. Refute it at one input. -/
def fnExactValidParcelsWrong : ChangeSpec := { name := "fnExactValidParcels", fn := fun _ => fun
  | [d] => { results := [.lit (.bool false)], args := [d] }
  | _ => none }
def FnExactValidParcelsWrongFalsely : Prop := fnExactValidParcelsRow.holds Try.pinned (OpenSpec.ofChange fnExactValidParcelsWrong)

/-- 'laws.FnExactAreaOfOwner': WHATEVER THE INPUT: true; the input reads as it did. -/
def fnExactAreaOfOwnerSpec : ChangeSpec := { name := "fnExactAreaOfOwner", fn := fun _ => fun
  | [d1, d2] => { results := [.lit (.bool true)], args := [d1, d2] }
  | _ => none }
def fnExactAreaOfOwnerRow : OpenClaim := { program := "ytiibamemkmffoaa", sum := "17cc3f0868d12482a67c85aa89d6ba3b09a26a8957cf23123c2bed35c4dfacdc", func := "loop.example/g01032/laws.FnExactAreaOfOwner", spec := "fnExactAreaOfOwner", unfollowed := true, recurses := true, apart := false }
def FnExactAreaOfOwnerSaid : Prop := fnExactAreaOfOwnerRow.holds Try.pinned (OpenSpec.ofChange fnExactAreaOfOwnerSpec)

/-- ITS FALSE NEIGHBOUR: 'it returns false'. Refute it at one input. -/
def fnExactAreaOfOwnerWrong : ChangeSpec := { name := "fnExactAreaOfOwner", fn := fun _ => fun
  | [d1, d2] => { results := [.lit (.bool false)], args := [d1, d2] }
  | _ => none }
def FnExactAreaOfOwnerWrongFalsely : Prop := fnExactAreaOfOwnerRow.holds Try.pinned (OpenSpec.ofChange fnExactAreaOfOwnerWrong)

/-- 'laws.FnExactParcelWith': WHATEVER THE INPUT: true; the input reads as it did. -/
def fnExactParcelWithSpec : ChangeSpec := { name := "fnExactParcelWith", fn := fun _ => fun
  | [d1, d2] => { results := [.lit (.bool true)], args := [d1, d2] }
  | _ => none }
def fnExactParcelWithRow : OpenClaim := { program := "ytiibamemkmffoaa", sum := "17cc3f0868d12482a67c85aa89d6ba3b09a26a8957cf23123c2bed35c4dfacdc", func := "loop.example/g01032/laws.FnExactParcelWith", spec := "fnExactParcelWith", unfollowed := true, recurses := true, apart := false }
def FnExactParcelWithSaid : Prop := fnExactParcelWithRow.holds Try.pinned (OpenSpec.ofChange fnExactParcelWithSpec)

/-- ITS FALSE NEIGHBOUR: 'it returns false'. Refute it at one input. -/
def fnExactParcelWithWrong : ChangeSpec := { name := "fnExactParcelWith", fn := fun _ => fun
  | [d1, d2] => { results := [.lit (.bool false)], args := [d1, d2] }
  | _ => none }
def FnExactParcelWithWrongFalsely : Prop := fnExactParcelWithRow.holds Try.pinned (OpenSpec.ofChange fnExactParcelWithWrong)

/-- 'laws.FnExactLargestOwner': WHATEVER THE INPUT: true; the input reads as it did. -/
def fnExactLargestOwnerSpec : ChangeSpec := { name := "fnExactLargestOwner", fn := fun _ => fun
  | [d] => { results := [.lit (.bool true)], args := [d] }
  | _ => none }
def fnExactLargestOwnerRow : OpenClaim := { program := "ytiibamemkmffoaa", sum := "17cc3f0868d12482a67c85aa89d6ba3b09a26a8957cf23123c2bed35c4dfacdc", func := "loop.example/g01032/laws.FnExactLargestOwner", spec := "fnExactLargestOwner", unfollowed := true, recurses := true, apart := false }
def FnExactLargestOwnerSaid : Prop := fnExactLargestOwnerRow.holds Try.pinned (OpenSpec.ofChange fnExactLargestOwnerSpec)

/-- ITS FALSE NEIGHBOUR: 'it returns false'. Refute it at one input. -/
def fnExactLargestOwnerWrong : ChangeSpec := { name := "fnExactLargestOwner", fn := fun _ => fun
  | [d] => { results := [.lit (.bool false)], args := [d] }
  | _ => none }
def FnExactLargestOwnerWrongFalsely : Prop := fnExactLargestOwnerRow.holds Try.pinned (OpenSpec.ofChange fnExactLargestOwnerWrong)

/-- 'laws.FnExactAreasOfClasses': WHATEVER THE INPUT: true; the input reads as it did. -/
def fnExactAreasOfClassesSpec : ChangeSpec := { name := "fnExactAreasOfClasses", fn := fun _ => fun
  | [d] => { results := [.lit (.bool true)], args := [d] }
  | _ => none }
def fnExactAreasOfClassesRow : OpenClaim := { program := "ytiibamemkmffoaa", sum := "17cc3f0868d12482a67c85aa89d6ba3b09a26a8957cf23123c2bed35c4dfacdc", func := "loop.example/g01032/laws.FnExactAreasOfClasses", spec := "fnExactAreasOfClasses", unfollowed := true, recurses := true, apart := false }
def FnExactAreasOfClassesSaid : Prop := fnExactAreasOfClassesRow.holds Try.pinned (OpenSpec.ofChange fnExactAreasOfClassesSpec)

/-- ITS FALSE NEIGHBOUR: 'it returns false'. Refute it at one input. -/
def fnExactAreasOfClassesWrong : ChangeSpec := { name := "fnExactAreasOfClasses", fn := fun _ => fun
  | [d] => { results := [.lit (.bool false)], args := [d] }
  | _ => none }
def FnExactAreasOfClassesWrongFalsely : Prop := fnExactAreasOfClassesRow.holds Try.pinned (OpenSpec.ofChange fnExactAreasOfClassesWrong)

/-- 'laws.FnExactAreasOfOwners': WHATEVER THE INPUT: true; the input reads as it did. -/
def fnExactAreasOfOwnersSpec : ChangeSpec := { name := "fnExactAreasOfOwners", fn := fun _ => fun
  | [d] => { results := [.lit (.bool true)], args := [d] }
  | _ => none }
def fnExactAreasOfOwnersRow : OpenClaim := { program := "ytiibamemkmffoaa", sum := "17cc3f0868d12482a67c85aa89d6ba3b09a26a8957cf23123c2bed35c4dfacdc", func := "loop.example/g01032/laws.FnExactAreasOfOwners", spec := "fnExactAreasOfOwners", unfollowed := true, recurses := true, apart := false }
def FnExactAreasOfOwnersSaid : Prop := fnExactAreasOfOwnersRow.holds Try.pinned (OpenSpec.ofChange fnExactAreasOfOwnersSpec)

/-- ITS FALSE NEIGHBOUR: 'it returns false'. Refute it at one input. -/
def fnExactAreasOfOwnersWrong : ChangeSpec := { name := "fnExactAreasOfOwners", fn := fun _ => fun
  | [d] => { results := [.lit (.bool false)], args := [d] }
  | _ => none }
def FnExactAreasOfOwnersWrongFalsely : Prop := fnExactAreasOfOwnersRow.holds Try.pinned (OpenSpec.ofChange fnExactAreasOfOwnersWrong)

/-- 'laws.FnExactSellParcel': WHATEVER THE INPUT: true; the input reads as it did. -/
def fnExactSellParcelSpec : ChangeSpec := { name := "fnExactSellParcel", fn := fun _ => fun
  | [d1, d2, d3] => { results := [.lit (.bool true)], args := [d1, d2, d3] }
  | _ => none }
def fnExactSellParcelRow : OpenClaim := { program := "ytiibamemkmffoaa", sum := "17cc3f0868d12482a67c85aa89d6ba3b09a26a8957cf23123c2bed35c4dfacdc", func := "loop.example/g01032/laws.FnExactSellParcel", spec := "fnExactSellParcel", unfollowed := true, recurses := true, apart := false }
def FnExactSellParcelSaid : Prop := fnExactSellParcelRow.holds Try.pinned (OpenSpec.ofChange fnExactSellParcelSpec)

/-- ITS FALSE NEIGHBOUR: 'it returns false'. Refute it at one input. -/
def fnExactSellParcelWrong : ChangeSpec := { name := "fnExactSellParcel", fn := fun _ => fun
  | [d1, d2, d3] => { results := [.lit (.bool false)], args := [d1, d2, d3] }
  | _ => none }
def FnExactSellParcelWrongFalsely : Prop := fnExactSellParcelRow.holds Try.pinned (OpenSpec.ofChange fnExactSellParcelWrong)

/-- 'laws.FnExactAddParcel': WHATEVER THE INPUT: true; the input reads as it did. -/
def fnExactAddParcelSpec : ChangeSpec := { name := "fnExactAddParcel", fn := fun _ => fun
  | [d1, d2] => { results := [.lit (.bool true)], args := [d1, d2] }
  | _ => none }
def fnExactAddParcelRow : OpenClaim := { program := "ytiibamemkmffoaa", sum := "17cc3f0868d12482a67c85aa89d6ba3b09a26a8957cf23123c2bed35c4dfacdc", func := "loop.example/g01032/laws.FnExactAddParcel", spec := "fnExactAddParcel", unfollowed := true, recurses := true, apart := false }
def FnExactAddParcelSaid : Prop := fnExactAddParcelRow.holds Try.pinned (OpenSpec.ofChange fnExactAddParcelSpec)

/-- ITS FALSE NEIGHBOUR: 'it returns false'. Refute it at one input. -/
def fnExactAddParcelWrong : ChangeSpec := { name := "fnExactAddParcel", fn := fun _ => fun
  | [d1, d2] => { results := [.lit (.bool false)], args := [d1, d2] }
  | _ => none }
def FnExactAddParcelWrongFalsely : Prop := fnExactAddParcelRow.holds Try.pinned (OpenSpec.ofChange fnExactAddParcelWrong)

/-- 'laws.FnExactJoinParcels': WHATEVER THE INPUT: true; the input reads as it did. -/
def fnExactJoinParcelsSpec : ChangeSpec := { name := "fnExactJoinParcels", fn := fun _ => fun
  | [d1, d2, d3] => { results := [.lit (.bool true)], args := [d1, d2, d3] }
  | _ => none }
def fnExactJoinParcelsRow : OpenClaim := { program := "ytiibamemkmffoaa", sum := "17cc3f0868d12482a67c85aa89d6ba3b09a26a8957cf23123c2bed35c4dfacdc", func := "loop.example/g01032/laws.FnExactJoinParcels", spec := "fnExactJoinParcels", unfollowed := true, recurses := true, apart := false }
def FnExactJoinParcelsSaid : Prop := fnExactJoinParcelsRow.holds Try.pinned (OpenSpec.ofChange fnExactJoinParcelsSpec)

/-- ITS FALSE NEIGHBOUR: 'it returns false'. Refute it at one input. -/
def fnExactJoinParcelsWrong : ChangeSpec := { name := "fnExactJoinParcels", fn := fun _ => fun
  | [d1, d2, d3] => { results := [.lit (.bool false)], args := [d1, d2, d3] }
  | _ => none }
def FnExactJoinParcelsWrongFalsely : Prop := fnExactJoinParcelsRow.holds Try.pinned (OpenSpec.ofChange fnExactJoinParcelsWrong)

/-- 'laws.FnExactSplitParcel': WHATEVER THE INPUT: true; the input reads as it did. -/
def fnExactSplitParcelSpec : ChangeSpec := { name := "fnExactSplitParcel", fn := fun _ => fun
  | [d1, d2, d3, d4] => { results := [.lit (.bool true)], args := [d1, d2, d3, d4] }
  | _ => none }
def fnExactSplitParcelRow : OpenClaim := { program := "ytiibamemkmffoaa", sum := "17cc3f0868d12482a67c85aa89d6ba3b09a26a8957cf23123c2bed35c4dfacdc", func := "loop.example/g01032/laws.FnExactSplitParcel", spec := "fnExactSplitParcel", unfollowed := true, recurses := true, apart := false }
def FnExactSplitParcelSaid : Prop := fnExactSplitParcelRow.holds Try.pinned (OpenSpec.ofChange fnExactSplitParcelSpec)

/-- ITS FALSE NEIGHBOUR: 'it returns false'. Refute it at one input. -/
def fnExactSplitParcelWrong : ChangeSpec := { name := "fnExactSplitParcel", fn := fun _ => fun
  | [d1, d2, d3, d4] => { results := [.lit (.bool false)], args := [d1, d2, d3, d4] }
  | _ => none }
def FnExactSplitParcelWrongFalsely : Prop := fnExactSplitParcelRow.holds Try.pinned (OpenSpec.ofChange fnExactSplitParcelWrong)

/- THE SECOND FORM. 'bulk': how many values and letters a reading holds, each counted each time it is reached (what is shared counts as often as it is met; a slice's spare places count too). A statement '..UptoSaid' is the law's where the arguments, and the package variables that the reading takes, are together of bulk at most 1048576: NARROWER than '..Said'. Prove '..Said' where nothing that the law and all that it calls make is longer than what came in: it says more and counts as full. Else prove '..UptoSaid'. A law counts once. -/
mutual
def uptoBulk {H : Type} : DataW H → Nat
  | .lit (.string bytes) => bytes.length + 1
  | .lit _ => 1
  | .nil => 1
  | .ptr d => uptoBulk d + 1
  | .slice elems spare => uptoBulkAll elems + uptoBulkAll spare + 1
  | .agg parts => uptoBulkAll parts + 1
  | .iface _ d => uptoBulk d + 1
  | .map entries => uptoBulkEntries entries + 1
  | .held _ => 1
def uptoBulkAll {H : Type} : List (DataW H) → Nat
  | [] => 0
  | d :: r => uptoBulk d + uptoBulkAll r
def uptoBulkEntries {H : Type} : List (Lit × DataW H) → Nat
  | [] => 0
  | x :: r => uptoBulkEntry x + uptoBulkEntries r
def uptoBulkEntry {H : Type} : Lit × DataW H → Nat
  | (.string bytes, d) => bytes.length + uptoBulk d + 1
  | (_, d) => uptoBulk d + 1
 end
def uptoSmall : (H : Type) → List (DataW H) → Bool := fun _ ds => decide (uptoBulkAll ds ≤ 1048576)
def OpenSpec.upto (s : _root_.Go.ChangeSpec) : _root_.Go.OpenSpec := { _root_.Go.OpenSpec.ofChange s with cond := some uptoSmall }

/-- 'laws.FnExactSameParcels', WHERE WHAT IT READS IS OF BULK AT MOST 1048576: true; the input reads as it did. -/
def fnExactSameParcelsUptoRow : OpenClaim := { program := "ytiibamemkmffoaa", sum := "17cc3f0868d12482a67c85aa89d6ba3b09a26a8957cf23123c2bed35c4dfacdc", func := "loop.example/g01032/laws.FnExactSameParcels", spec := "fnExactSameParcels", apart := false, narrowed := true }
def FnExactSameParcelsUptoSaid : Prop := fnExactSameParcelsUptoRow.holds Try.pinned (OpenSpec.upto fnExactSameParcelsSpec)

/-- 'laws.FnExactValidParcels', WHERE WHAT IT READS IS OF BULK AT MOST 1048576: true; the input reads as it did. -/
def fnExactValidParcelsUptoRow : OpenClaim := { program := "ytiibamemkmffoaa", sum := "17cc3f0868d12482a67c85aa89d6ba3b09a26a8957cf23123c2bed35c4dfacdc", func := "loop.example/g01032/laws.FnExactValidParcels", spec := "fnExactValidParcels", unfollowed := true, recurses := true, apart := false, narrowed := true }
def FnExactValidParcelsUptoSaid : Prop := fnExactValidParcelsUptoRow.holds Try.pinned (OpenSpec.upto fnExactValidParcelsSpec)

/-- 'laws.FnExactAreaOfOwner', WHERE WHAT IT READS IS OF BULK AT MOST 1048576: true; the input reads as it did. -/
def fnExactAreaOfOwnerUptoRow : OpenClaim := { program := "ytiibamemkmffoaa", sum := "17cc3f0868d12482a67c85aa89d6ba3b09a26a8957cf23123c2bed35c4dfacdc", func := "loop.example/g01032/laws.FnExactAreaOfOwner", spec := "fnExactAreaOfOwner", unfollowed := true, recurses := true, apart := false, narrowed := true }
def FnExactAreaOfOwnerUptoSaid : Prop := fnExactAreaOfOwnerUptoRow.holds Try.pinned (OpenSpec.upto fnExactAreaOfOwnerSpec)

/-- 'laws.FnExactParcelWith', WHERE WHAT IT READS IS OF BULK AT MOST 1048576: true; the input reads as it did. -/
def fnExactParcelWithUptoRow : OpenClaim := { program := "ytiibamemkmffoaa", sum := "17cc3f0868d12482a67c85aa89d6ba3b09a26a8957cf23123c2bed35c4dfacdc", func := "loop.example/g01032/laws.FnExactParcelWith", spec := "fnExactParcelWith", unfollowed := true, recurses := true, apart := false, narrowed := true }
def FnExactParcelWithUptoSaid : Prop := fnExactParcelWithUptoRow.holds Try.pinned (OpenSpec.upto fnExactParcelWithSpec)

/-- 'laws.FnExactLargestOwner', WHERE WHAT IT READS IS OF BULK AT MOST 1048576: true; the input reads as it did. -/
def fnExactLargestOwnerUptoRow : OpenClaim := { program := "ytiibamemkmffoaa", sum := "17cc3f0868d12482a67c85aa89d6ba3b09a26a8957cf23123c2bed35c4dfacdc", func := "loop.example/g01032/laws.FnExactLargestOwner", spec := "fnExactLargestOwner", unfollowed := true, recurses := true, apart := false, narrowed := true }
def FnExactLargestOwnerUptoSaid : Prop := fnExactLargestOwnerUptoRow.holds Try.pinned (OpenSpec.upto fnExactLargestOwnerSpec)

/-- 'laws.FnExactAreasOfClasses', WHERE WHAT IT READS IS OF BULK AT MOST 1048576: true; the input reads as it did. -/
def fnExactAreasOfClassesUptoRow : OpenClaim := { program := "ytiibamemkmffoaa", sum := "17cc3f0868d12482a67c85aa89d6ba3b09a26a8957cf23123c2bed35c4dfacdc", func := "loop.example/g01032/laws.FnExactAreasOfClasses", spec := "fnExactAreasOfClasses", unfollowed := true, recurses := true, apart := false, narrowed := true }
def FnExactAreasOfClassesUptoSaid : Prop := fnExactAreasOfClassesUptoRow.holds Try.pinned (OpenSpec.upto fnExactAreasOfClassesSpec)

/-- 'laws.FnExactAreasOfOwners', WHERE WHAT IT READS IS OF BULK AT MOST 1048576: true; the input reads as it did. -/
def fnExactAreasOfOwnersUptoRow : OpenClaim := { program := "ytiibamemkmffoaa", sum := "17cc3f0868d12482a67c85aa89d6ba3b09a26a8957cf23123c2bed35c4dfacdc", func := "loop.example/g01032/laws.FnExactAreasOfOwners", spec := "fnExactAreasOfOwners", unfollowed := true, recurses := true, apart := false, narrowed := true }
def FnExactAreasOfOwnersUptoSaid : Prop := fnExactAreasOfOwnersUptoRow.holds Try.pinned (OpenSpec.upto fnExactAreasOfOwnersSpec)

/-- 'laws.FnExactSellParcel', WHERE WHAT IT READS IS OF BULK AT MOST 1048576: true; the input reads as it did. -/
def fnExactSellParcelUptoRow : OpenClaim := { program := "ytiibamemkmffoaa", sum := "17cc3f0868d12482a67c85aa89d6ba3b09a26a8957cf23123c2bed35c4dfacdc", func := "loop.example/g01032/laws.FnExactSellParcel", spec := "fnExactSellParcel", unfollowed := true, recurses := true, apart := false, narrowed := true }
def FnExactSellParcelUptoSaid : Prop := fnExactSellParcelUptoRow.holds Try.pinned (OpenSpec.upto fnExactSellParcelSpec)

/-- 'laws.FnExactAddParcel', WHERE WHAT IT READS IS OF BULK AT MOST 1048576: true; the input reads as it did. -/
def fnExactAddParcelUptoRow : OpenClaim := { program := "ytiibamemkmffoaa", sum := "17cc3f0868d12482a67c85aa89d6ba3b09a26a8957cf23123c2bed35c4dfacdc", func := "loop.example/g01032/laws.FnExactAddParcel", spec := "fnExactAddParcel", unfollowed := true, recurses := true, apart := false, narrowed := true }
def FnExactAddParcelUptoSaid : Prop := fnExactAddParcelUptoRow.holds Try.pinned (OpenSpec.upto fnExactAddParcelSpec)

/-- 'laws.FnExactJoinParcels', WHERE WHAT IT READS IS OF BULK AT MOST 1048576: true; the input reads as it did. -/
def fnExactJoinParcelsUptoRow : OpenClaim := { program := "ytiibamemkmffoaa", sum := "17cc3f0868d12482a67c85aa89d6ba3b09a26a8957cf23123c2bed35c4dfacdc", func := "loop.example/g01032/laws.FnExactJoinParcels", spec := "fnExactJoinParcels", unfollowed := true, recurses := true, apart := false, narrowed := true }
def FnExactJoinParcelsUptoSaid : Prop := fnExactJoinParcelsUptoRow.holds Try.pinned (OpenSpec.upto fnExactJoinParcelsSpec)

/-- 'laws.FnExactSplitParcel', WHERE WHAT IT READS IS OF BULK AT MOST 1048576: true; the input reads as it did. -/
def fnExactSplitParcelUptoRow : OpenClaim := { program := "ytiibamemkmffoaa", sum := "17cc3f0868d12482a67c85aa89d6ba3b09a26a8957cf23123c2bed35c4dfacdc", func := "loop.example/g01032/laws.FnExactSplitParcel", spec := "fnExactSplitParcel", unfollowed := true, recurses := true, apart := false, narrowed := true }
def FnExactSplitParcelUptoSaid : Prop := fnExactSplitParcelUptoRow.holds Try.pinned (OpenSpec.upto fnExactSplitParcelSpec)

end Rows
end Go.Proofs.Ytiibamemkmffoaa
