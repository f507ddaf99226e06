/-
  No cell of these rows narrows 'for every input' (looked for: loops, veiled, ifaces, maps, wideKeys, modest, calm, conditions, laid).
  DERIVED. THE GIVEN ROWS OF THIS SEAT. 8 by the template 'for every input the law returns true; each argument reads behind the call as it read before'; 0 by the template 'total and deterministic' (their statements: YtgakpcepjhbhjaaTotals.lean).
  GIVEN WITH THE SEED: the statements are not yours to turn. If you find one false, say at which input.
  Laid BY PROGRAM, IN A SANDBOX (cutbox-rows.mjs): the forced cells as the released guide's own fill.sh prints them over the translation 4ed8690527f6bb48… (all of the seat's roots in one cut). By AI agents, Wed Nov 11 2026. No macro, syntax, notation, axiom, sorry.
-/
import Derived.Test.YtgakpcepjhbhjaaChecked
import GoSem.Claim
import GoSem.ClaimJoined
import GoSem.ClaimMapViews
import Derived.JoinedTies
import Derived.KernelRfl
namespace Go.Proofs.Ytgakpcepjhbhjaa
/- THE CELL 'sum', in the pinned program and in every row, IS THE sha256 OF THE DUMP (.gsa) THAT YtgakpcepjhbhjaaProg.lean LOADS. Nothing in Lean hashes anything: it is a label: what it is worth is what the hold of that sum in a sandbox is worth. -/
noncomputable def Try.pinned : Pinned := { name := "ytgakpcepjhbhjaa", sum := "4ed8690527f6bb48eabde1361112b0c0243225aaf5ce18322efc9b22a69375f9", checked := Try.checked }
namespace Rows
def none {H : Type} : Left H := { results := [], args := [] }

/-- 'laws.FnExactFineOf': WHATEVER THE INPUT: true; the input reads as it did. -/
def fnExactFineOfSpec : ChangeSpec := { name := "fnExactFineOf", fn := fun _ => fun
  | [d1, d2, d3] => { results := [.lit (.bool true)], args := [d1, d2, d3] }
  | _ => none }
def fnExactFineOfRow : OpenClaim := { program := "ytgakpcepjhbhjaa", sum := "4ed8690527f6bb48eabde1361112b0c0243225aaf5ce18322efc9b22a69375f9", func := "loop.example/g01032/laws.FnExactFineOf", spec := "fnExactFineOf", apart := false }
def FnExactFineOfSaid : Prop := fnExactFineOfRow.holds Try.pinned (OpenSpec.ofChange fnExactFineOfSpec)

/-- ITS FALSE NEIGHBOUR: 'it returns false'. Refute it at one input. -/
def fnExactFineOfWrong : ChangeSpec := { name := "fnExactFineOf", fn := fun _ => fun
  | [d1, d2, d3] => { results := [.lit (.bool false)], args := [d1, d2, d3] }
  | _ => none }
def FnExactFineOfWrongFalsely : Prop := fnExactFineOfRow.holds Try.pinned (OpenSpec.ofChange fnExactFineOfWrong)

/-- 'laws.FnExactSameBills': WHATEVER THE INPUT: true; the input reads as it did. -/
def fnExactSameBillsSpec : ChangeSpec := { name := "fnExactSameBills", fn := fun _ => fun
  | [d1, d2] => { results := [.lit (.bool true)], args := [d1, d2] }
  | _ => none }
def fnExactSameBillsRow : OpenClaim := { program := "ytgakpcepjhbhjaa", sum := "4ed8690527f6bb48eabde1361112b0c0243225aaf5ce18322efc9b22a69375f9", func := "loop.example/g01032/laws.FnExactSameBills", spec := "fnExactSameBills", apart := false }
def FnExactSameBillsSaid : Prop := fnExactSameBillsRow.holds Try.pinned (OpenSpec.ofChange fnExactSameBillsSpec)

/-- ITS FALSE NEIGHBOUR: 'it returns false'. Refute it at one input. -/
def fnExactSameBillsWrong : ChangeSpec := { name := "fnExactSameBills", fn := fun _ => fun
  | [d1, d2] => { results := [.lit (.bool false)], args := [d1, d2] }
  | _ => none }
def FnExactSameBillsWrongFalsely : Prop := fnExactSameBillsRow.holds Try.pinned (OpenSpec.ofChange fnExactSameBillsWrong)

/-- 'laws.FnExactValidBills': WHATEVER THE INPUT: true; the input reads as it did. -/
def fnExactValidBillsSpec : ChangeSpec := { name := "fnExactValidBills", fn := fun _ => fun
  | [d] => { results := [.lit (.bool true)], args := [d] }
  | _ => none }
def fnExactValidBillsRow : OpenClaim := { program := "ytgakpcepjhbhjaa", sum := "4ed8690527f6bb48eabde1361112b0c0243225aaf5ce18322efc9b22a69375f9", func := "loop.example/g01032/laws.FnExactValidBills", spec := "fnExactValidBills", unfollowed := true, recurses := true, apart := false }
def FnExactValidBillsSaid : Prop := fnExactValidBillsRow.holds Try.pinned (OpenSpec.ofChange fnExactValidBillsSpec)

/-- ITS FALSE NEIGHBOUR: 'it returns false'. Refute it at one input. -/
def fnExactValidBillsWrong : ChangeSpec := { name := "fnExactValidBills", fn := fun _ => fun
  | [d] => { results := [.lit (.bool false)], args := [d] }
  | _ => none }
def FnExactValidBillsWrongFalsely : Prop := fnExactValidBillsRow.holds Try.pinned (OpenSpec.ofChange fnExactValidBillsWrong)

/-- 'laws.FnExactOpenOf': WHATEVER THE INPUT: true; the input reads as it did. -/
def fnExactOpenOfSpec : ChangeSpec := { name := "fnExactOpenOf", fn := fun _ => fun
  | [d1, d2] => { results := [.lit (.bool true)], args := [d1, d2] }
  | _ => none }
def fnExactOpenOfRow : OpenClaim := { program := "ytgakpcepjhbhjaa", sum := "4ed8690527f6bb48eabde1361112b0c0243225aaf5ce18322efc9b22a69375f9", func := "loop.example/g01032/laws.FnExactOpenOf", spec := "fnExactOpenOf", unfollowed := true, recurses := true, apart := false }
def FnExactOpenOfSaid : Prop := fnExactOpenOfRow.holds Try.pinned (OpenSpec.ofChange fnExactOpenOfSpec)

/-- ITS FALSE NEIGHBOUR: 'it returns false'. Refute it at one input. -/
def fnExactOpenOfWrong : ChangeSpec := { name := "fnExactOpenOf", fn := fun _ => fun
  | [d1, d2] => { results := [.lit (.bool false)], args := [d1, d2] }
  | _ => none }
def FnExactOpenOfWrongFalsely : Prop := fnExactOpenOfRow.holds Try.pinned (OpenSpec.ofChange fnExactOpenOfWrong)

/-- 'laws.FnExactGreatestDebtor': WHATEVER THE INPUT: true; the input reads as it did. -/
def fnExactGreatestDebtorSpec : ChangeSpec := { name := "fnExactGreatestDebtor", fn := fun _ => fun
  | [d] => { results := [.lit (.bool true)], args := [d] }
  | _ => none }
def fnExactGreatestDebtorRow : OpenClaim := { program := "ytgakpcepjhbhjaa", sum := "4ed8690527f6bb48eabde1361112b0c0243225aaf5ce18322efc9b22a69375f9", func := "loop.example/g01032/laws.FnExactGreatestDebtor", spec := "fnExactGreatestDebtor", unfollowed := true, recurses := true, apart := false }
def FnExactGreatestDebtorSaid : Prop := fnExactGreatestDebtorRow.holds Try.pinned (OpenSpec.ofChange fnExactGreatestDebtorSpec)

/-- ITS FALSE NEIGHBOUR: 'it returns false'. Refute it at one input. -/
def fnExactGreatestDebtorWrong : ChangeSpec := { name := "fnExactGreatestDebtor", fn := fun _ => fun
  | [d] => { results := [.lit (.bool false)], args := [d] }
  | _ => none }
def FnExactGreatestDebtorWrongFalsely : Prop := fnExactGreatestDebtorRow.holds Try.pinned (OpenSpec.ofChange fnExactGreatestDebtorWrong)

/-- 'laws.FnExactOverdueBills': WHATEVER THE INPUT: true; the input reads as it did. -/
def fnExactOverdueBillsSpec : ChangeSpec := { name := "fnExactOverdueBills", fn := fun _ => fun
  | [d1, d2, d3] => { results := [.lit (.bool true)], args := [d1, d2, d3] }
  | _ => none }
def fnExactOverdueBillsRow : OpenClaim := { program := "ytgakpcepjhbhjaa", sum := "4ed8690527f6bb48eabde1361112b0c0243225aaf5ce18322efc9b22a69375f9", func := "loop.example/g01032/laws.FnExactOverdueBills", spec := "fnExactOverdueBills", unfollowed := true, recurses := true, apart := false }
def FnExactOverdueBillsSaid : Prop := fnExactOverdueBillsRow.holds Try.pinned (OpenSpec.ofChange fnExactOverdueBillsSpec)

/-- ITS FALSE NEIGHBOUR: 'it returns false'. Refute it at one input. -/
def fnExactOverdueBillsWrong : ChangeSpec := { name := "fnExactOverdueBills", fn := fun _ => fun
  | [d1, d2, d3] => { results := [.lit (.bool false)], args := [d1, d2, d3] }
  | _ => none }
def FnExactOverdueBillsWrongFalsely : Prop := fnExactOverdueBillsRow.holds Try.pinned (OpenSpec.ofChange fnExactOverdueBillsWrong)

/-- 'laws.FnExactRemitBills': WHATEVER THE INPUT: true; the input reads as it did. -/
def fnExactRemitBillsSpec : ChangeSpec := { name := "fnExactRemitBills", fn := fun _ => fun
  | [d1, d2, d3] => { results := [.lit (.bool true)], args := [d1, d2, d3] }
  | _ => none }
def fnExactRemitBillsRow : OpenClaim := { program := "ytgakpcepjhbhjaa", sum := "4ed8690527f6bb48eabde1361112b0c0243225aaf5ce18322efc9b22a69375f9", func := "loop.example/g01032/laws.FnExactRemitBills", spec := "fnExactRemitBills", unfollowed := true, recurses := true, apart := false }
def FnExactRemitBillsSaid : Prop := fnExactRemitBillsRow.holds Try.pinned (OpenSpec.ofChange fnExactRemitBillsSpec)

/-- ITS FALSE NEIGHBOUR: 'it returns false'. Refute it at one input. -/
def fnExactRemitBillsWrong : ChangeSpec := { name := "fnExactRemitBills", fn := fun _ => fun
  | [d1, d2, d3] => { results := [.lit (.bool false)], args := [d1, d2, d3] }
  | _ => none }
def FnExactRemitBillsWrongFalsely : Prop := fnExactRemitBillsRow.holds Try.pinned (OpenSpec.ofChange fnExactRemitBillsWrong)

/-- 'laws.FnExactPayBills': WHATEVER THE INPUT: true; the input reads as it did. -/
def fnExactPayBillsSpec : ChangeSpec := { name := "fnExactPayBills", fn := fun _ => fun
  | [d1, d2, d3] => { results := [.lit (.bool true)], args := [d1, d2, d3] }
  | _ => none }
def fnExactPayBillsRow : OpenClaim := { program := "ytgakpcepjhbhjaa", sum := "4ed8690527f6bb48eabde1361112b0c0243225aaf5ce18322efc9b22a69375f9", func := "loop.example/g01032/laws.FnExactPayBills", spec := "fnExactPayBills", unfollowed := true, recurses := true, apart := false }
def FnExactPayBillsSaid : Prop := fnExactPayBillsRow.holds Try.pinned (OpenSpec.ofChange fnExactPayBillsSpec)

/-- ITS FALSE NEIGHBOUR: 'it returns false'. Refute it at one input. -/
def fnExactPayBillsWrong : ChangeSpec := { name := "fnExactPayBills", fn := fun _ => fun
  | [d1, d2, d3] => { results := [.lit (.bool false)], args := [d1, d2, d3] }
  | _ => none }
def FnExactPayBillsWrongFalsely : Prop := fnExactPayBillsRow.holds Try.pinned (OpenSpec.ofChange fnExactPayBillsWrong)

/- THE SECOND FORM. 'bulk': how many values and letters a reading holds, each counted each time it is reached (what is shared counts as often as it is met; a slice's spare places count too). A statement '..UptoSaid' is the law's where the arguments, and the package variables that the reading takes, are together of bulk at most 1048576: NARROWER than '..Said'. Prove '..Said' where nothing that the law and all that it calls make is longer than what came in: it says more and counts as full. Else prove '..UptoSaid'. A law counts once. -/
mutual
def uptoBulk {H : Type} : DataW H → Nat
  | .lit (.string bytes) => bytes.length + 1
  | .lit _ => 1
  | .nil => 1
  | .ptr d => uptoBulk d + 1
  | .slice elems spare => uptoBulkAll elems + uptoBulkAll spare + 1
  | .agg parts => uptoBulkAll parts + 1
  | .iface _ d => uptoBulk d + 1
  | .map entries => uptoBulkEntries entries + 1
  | .held _ => 1
def uptoBulkAll {H : Type} : List (DataW H) → Nat
  | [] => 0
  | d :: r => uptoBulk d + uptoBulkAll r
def uptoBulkEntries {H : Type} : List (Lit × DataW H) → Nat
  | [] => 0
  | x :: r => uptoBulkEntry x + uptoBulkEntries r
def uptoBulkEntry {H : Type} : Lit × DataW H → Nat
  | (.string bytes, d) => bytes.length + uptoBulk d + 1
  | (_, d) => uptoBulk d + 1
 end
def uptoSmall : (H : Type) → List (DataW H) → Bool := fun _ ds => decide (uptoBulkAll ds ≤ 1048576)
def OpenSpec.upto (s : _root_.Go.ChangeSpec) : _root_.Go.OpenSpec := { _root_.Go.OpenSpec.ofChange s with cond := some uptoSmall }

/-- 'laws.FnExactFineOf', WHERE WHAT IT READS IS OF BULK AT MOST 1048576: true; the input reads as it did. -/
def fnExactFineOfUptoRow : OpenClaim := { program := "ytgakpcepjhbhjaa", sum := "4ed8690527f6bb48eabde1361112b0c0243225aaf5ce18322efc9b22a69375f9", func := "loop.example/g01032/laws.FnExactFineOf", spec := "fnExactFineOf", apart := false, narrowed := true }
def FnExactFineOfUptoSaid : Prop := fnExactFineOfUptoRow.holds Try.pinned (OpenSpec.upto fnExactFineOfSpec)

/-- 'laws.FnExactSameBills', WHERE WHAT IT READS IS OF BULK AT MOST 1048576: true; the input reads as it did. -/
def fnExactSameBillsUptoRow : OpenClaim := { program := "ytgakpcepjhbhjaa", sum := "4ed8690527f6bb48eabde1361112b0c0243225aaf5ce18322efc9b22a69375f9", func := "loop.example/g01032/laws.FnExactSameBills", spec := "fnExactSameBills", apart := false, narrowed := true }
def FnExactSameBillsUptoSaid : Prop := fnExactSameBillsUptoRow.holds Try.pinned (OpenSpec.upto fnExactSameBillsSpec)

/-- 'laws.FnExactValidBills', WHERE WHAT IT READS IS OF BULK AT MOST 1048576: true; the input reads as it did. -/
def fnExactValidBillsUptoRow : OpenClaim := { program := "ytgakpcepjhbhjaa", sum := "4ed8690527f6bb48eabde1361112b0c0243225aaf5ce18322efc9b22a69375f9", func := "loop.example/g01032/laws.FnExactValidBills", spec := "fnExactValidBills", unfollowed := true, recurses := true, apart := false, narrowed := true }
def FnExactValidBillsUptoSaid : Prop := fnExactValidBillsUptoRow.holds Try.pinned (OpenSpec.upto fnExactValidBillsSpec)

/-- 'laws.FnExactOpenOf', WHERE WHAT IT READS IS OF BULK AT MOST 1048576: true; the input reads as it did. -/
def fnExactOpenOfUptoRow : OpenClaim := { program := "ytgakpcepjhbhjaa", sum := "4ed8690527f6bb48eabde1361112b0c0243225aaf5ce18322efc9b22a69375f9", func := "loop.example/g01032/laws.FnExactOpenOf", spec := "fnExactOpenOf", unfollowed := true, recurses := true, apart := false, narrowed := true }
def FnExactOpenOfUptoSaid : Prop := fnExactOpenOfUptoRow.holds Try.pinned (OpenSpec.upto fnExactOpenOfSpec)

/-- 'laws.FnExactGreatestDebtor', WHERE WHAT IT READS IS OF BULK AT MOST 1048576: true; the input reads as it did. -/
def fnExactGreatestDebtorUptoRow : OpenClaim := { program := "ytgakpcepjhbhjaa", sum := "4ed8690527f6bb48eabde1361112b0c0243225aaf5ce18322efc9b22a69375f9", func := "loop.example/g01032/laws.FnExactGreatestDebtor", spec := "fnExactGreatestDebtor", unfollowed := true, recurses := true, apart := false, narrowed := true }
def FnExactGreatestDebtorUptoSaid : Prop := fnExactGreatestDebtorUptoRow.holds Try.pinned (OpenSpec.upto fnExactGreatestDebtorSpec)

/-- 'laws.FnExactOverdueBills', WHERE WHAT IT READS IS OF BULK AT MOST 1048576: true; the input reads as it did. -/
def fnExactOverdueBillsUptoRow : OpenClaim := { program := "ytgakpcepjhbhjaa", sum := "4ed8690527f6bb48eabde1361112b0c0243225aaf5ce18322efc9b22a69375f9", func := "loop.example/g01032/laws.FnExactOverdueBills", spec := "fnExactOverdueBills", unfollowed := true, recurses := true, apart := false, narrowed := true }
def FnExactOverdueBillsUptoSaid : Prop := fnExactOverdueBillsUptoRow.holds Try.pinned (OpenSpec.upto fnExactOverdueBillsSpec)

/-- 'laws.FnExactRemitBills', WHERE WHAT IT READS IS OF BULK AT MOST 1048576: true; the input reads as it did. -/
def fnExactRemitBillsUptoRow : OpenClaim := { program := "ytgakpcepjhbhjaa", sum := "4ed8690527f6bb48eabde1361112b0c0243225aaf5ce18322efc9b22a69375f9", func := "loop.example/g01032/laws.FnExactRemitBills", spec := "fnExactRemitBills", unfollowed := true, recurses := true, apart := false, narrowed := true }
def FnExactRemitBillsUptoSaid : Prop := fnExactRemitBillsUptoRow.holds Try.pinned (OpenSpec.upto fnExactRemitBillsSpec)

/-- 'laws.FnExactPayBills', WHERE WHAT IT READS IS OF BULK AT MOST 1048576: true; the input reads as it did. -/
def fnExactPayBillsUptoRow : OpenClaim := { program := "ytgakpcepjhbhjaa", sum := "4ed8690527f6bb48eabde1361112b0c0243225aaf5ce18322efc9b22a69375f9", func := "loop.example/g01032/laws.FnExactPayBills", spec := "fnExactPayBills", unfollowed := true, recurses := true, apart := false, narrowed := true }
def FnExactPayBillsUptoSaid : Prop := fnExactPayBillsUptoRow.holds Try.pinned (OpenSpec.upto fnExactPayBillsSpec)

end Rows
end Go.Proofs.Ytgakpcepjhbhjaa
