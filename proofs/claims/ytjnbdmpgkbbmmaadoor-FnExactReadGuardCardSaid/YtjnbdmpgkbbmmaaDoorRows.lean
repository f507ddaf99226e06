/-
  NARROWER THAN 'FOR EVERY INPUT', by the rows' own cells (each row's printed sentence says how): FnExactBillText: laid · FnExactParcelText: laid · FnExactDefectText: laid · FnExactGuardText: laid · FnExactAlarmsText: laid · FnExactReadDefect: laid · FnExactReadGuard: laid · FnExactReadParcel: laid.
  DERIVED. THE GIVEN ROWS OF THIS SEAT. 8 by the template 'for every input the law returns true; each argument reads behind the call as it read before'; 0 by the template 'total and deterministic' (their statements: YtjnbdmpgkbbmmaaDoorTotals.lean).
  GIVEN WITH THE SEED: the statements are not yours to turn. If you find one false, say at which input.
  Laid BY PROGRAM, IN A SANDBOX (cutbox-rows.mjs): the forced cells as the released guide's own fill.sh prints them over the translation a6be9423e6015330… (all of the seat's roots in one cut). By AI agents, Wed Nov 11 2026. No macro, syntax, notation, axiom, sorry.
-/
import Derived.Test.YtjnbdmpgkbbmmaaDoorChecked
import GoSem.Claim
import GoSem.ClaimJoined
import GoSem.ClaimMapViews
import Derived.JoinedTies
import Derived.KernelRfl
namespace Go.Proofs.YtjnbdmpgkbbmmaaDoor
/- THE CELL 'sum', in the pinned program and in every row, IS THE sha256 OF THE DUMP (.gsa) THAT YtjnbdmpgkbbmmaaDoorProg.lean LOADS. Nothing in Lean hashes anything: it is a label: what it is worth is what the hold of that sum in a sandbox is worth. -/
noncomputable def Tryd.pinned : Pinned := { name := "ytjnbdmpgkbbmmaadoor", sum := "a6be9423e60153307fd30ce84946e1b8baeaf4c17ebbad6c8ef6b279e4730ce3", checked := Tryd.checked }
namespace Rows
def none {H : Type} : Left H := { results := [], args := [] }

/- WHAT THE LISTED PACKAGE-LEVEL VARIABLES READ AS WHEN THE CALL BEGINS. Each datum BY PROGRAM (the guide's laid-datum.mjs) off the statement by which the dump's own 'gosem.cut.vars' lays the variable. In a bare row this is a premise. The card (YtjnbdmpgkbbmmaaDoorCards.lean) ties it to the program's text. -/
def laid_math_bits_deBruijn32tab {H : Type} : DataW H := .agg [.lit (.int .u8 0), .lit (.int .u8 1), .lit (.int .u8 28), .lit (.int .u8 2), .lit (.int .u8 29), .lit (.int .u8 14), .lit (.int .u8 24), .lit (.int .u8 3), .lit (.int .u8 30), .lit (.int .u8 22), .lit (.int .u8 20), .lit (.int .u8 15), .lit (.int .u8 25), .lit (.int .u8 17), .lit (.int .u8 4), .lit (.int .u8 8), .lit (.int .u8 31), .lit (.int .u8 27), .lit (.int .u8 13), .lit (.int .u8 23), .lit (.int .u8 21), .lit (.int .u8 19), .lit (.int .u8 16), .lit (.int .u8 7), .lit (.int .u8 26), .lit (.int .u8 12), .lit (.int .u8 18), .lit (.int .u8 6), .lit (.int .u8 11), .lit (.int .u8 5), .lit (.int .u8 10), .lit (.int .u8 9)]
def laid_math_bits_deBruijn64tab {H : Type} : DataW H := .agg [.lit (.int .u8 0), .lit (.int .u8 1), .lit (.int .u8 56), .lit (.int .u8 2), .lit (.int .u8 57), .lit (.int .u8 49), .lit (.int .u8 28), .lit (.int .u8 3), .lit (.int .u8 61), .lit (.int .u8 58), .lit (.int .u8 42), .lit (.int .u8 50), .lit (.int .u8 38), .lit (.int .u8 29), .lit (.int .u8 17), .lit (.int .u8 4), .lit (.int .u8 62), .lit (.int .u8 47), .lit (.int .u8 59), .lit (.int .u8 36), .lit (.int .u8 45), .lit (.int .u8 43), .lit (.int .u8 51), .lit (.int .u8 22), .lit (.int .u8 53), .lit (.int .u8 39), .lit (.int .u8 33), .lit (.int .u8 30), .lit (.int .u8 24), .lit (.int .u8 18), .lit (.int .u8 12), .lit (.int .u8 5), .lit (.int .u8 63), .lit (.int .u8 55), .lit (.int .u8 48), .lit (.int .u8 27), .lit (.int .u8 60), .lit (.int .u8 41), .lit (.int .u8 37), .lit (.int .u8 16), .lit (.int .u8 46), .lit (.int .u8 35), .lit (.int .u8 44), .lit (.int .u8 21), .lit (.int .u8 52), .lit (.int .u8 32), .lit (.int .u8 23), .lit (.int .u8 11), .lit (.int .u8 54), .lit (.int .u8 26), .lit (.int .u8 40), .lit (.int .u8 15), .lit (.int .u8 34), .lit (.int .u8 20), .lit (.int .u8 31), .lit (.int .u8 10), .lit (.int .u8 25), .lit (.int .u8 14), .lit (.int .u8 19), .lit (.int .u8 9), .lit (.int .u8 13), .lit (.int .u8 8), .lit (.int .u8 7), .lit (.int .u8 6)]
def laid_internal_strconv_uint64pow10 {H : Type} : DataW H := .agg [.lit (.int .u64 1), .lit (.int .u64 10), .lit (.int .u64 100), .lit (.int .u64 1000), .lit (.int .u64 10000), .lit (.int .u64 100000), .lit (.int .u64 1000000), .lit (.int .u64 10000000), .lit (.int .u64 100000000), .lit (.int .u64 1000000000), .lit (.int .u64 10000000000), .lit (.int .u64 100000000000), .lit (.int .u64 1000000000000), .lit (.int .u64 10000000000000), .lit (.int .u64 100000000000000), .lit (.int .u64 1000000000000000), .lit (.int .u64 10000000000000000), .lit (.int .u64 100000000000000000), .lit (.int .u64 1000000000000000000), .lit (.int .u64 10000000000000000000)]
def laid_strconv_ErrRange {H : Type} : DataW H := .iface "*errors.errorString" (.ptr (.agg [.lit (.string [118, 97, 108, 117, 101, 32, 111, 117, 116, 32, 111, 102, 32, 114, 97, 110, 103, 101])]))
def laid_strconv_ErrSyntax {H : Type} : DataW H := .iface "*errors.errorString" (.ptr (.agg [.lit (.string [105, 110, 118, 97, 108, 105, 100, 32, 115, 121, 110, 116, 97, 120])]))

/-- 'laws.FnExactBillText': WHATEVER THE INPUT: true; the input reads as it did. -/
def fnExactBillTextSpec : ChangeSpec := { name := "fnExactBillText", fn := fun _ => fun
  | [d] => { results := [.lit (.bool true)], args := [d] }
  | _ => none }
def fnExactBillTextRow : OpenClaim := { program := "ytjnbdmpgkbbmmaadoor", sum := "a6be9423e60153307fd30ce84946e1b8baeaf4c17ebbad6c8ef6b279e4730ce3", func := "loop.example/g01032/laws.FnExactBillText", spec := "fnExactBillText", named := ["internal/strconv.uint64pow10", "math/bits.deBruijn32tab", "math/bits.deBruijn64tab"], apart := false, laid := [("math/bits.deBruijn32tab", laid_math_bits_deBruijn32tab), ("math/bits.deBruijn64tab", laid_math_bits_deBruijn64tab), ("internal/strconv.uint64pow10", laid_internal_strconv_uint64pow10)] }
def FnExactBillTextSaid : Prop := fnExactBillTextRow.holds Tryd.pinned (OpenSpec.ofChange fnExactBillTextSpec)

/-- ITS FALSE NEIGHBOUR: 'it returns false'. Refute it at one input. -/
def fnExactBillTextWrong : ChangeSpec := { name := "fnExactBillText", fn := fun _ => fun
  | [d] => { results := [.lit (.bool false)], args := [d] }
  | _ => none }
def FnExactBillTextWrongFalsely : Prop := fnExactBillTextRow.holds Tryd.pinned (OpenSpec.ofChange fnExactBillTextWrong)

/-- 'laws.FnExactParcelText': WHATEVER THE INPUT: true; the input reads as it did. -/
def fnExactParcelTextSpec : ChangeSpec := { name := "fnExactParcelText", fn := fun _ => fun
  | [d] => { results := [.lit (.bool true)], args := [d] }
  | _ => none }
def fnExactParcelTextRow : OpenClaim := { program := "ytjnbdmpgkbbmmaadoor", sum := "a6be9423e60153307fd30ce84946e1b8baeaf4c17ebbad6c8ef6b279e4730ce3", func := "loop.example/g01032/laws.FnExactParcelText", spec := "fnExactParcelText", named := ["internal/strconv.uint64pow10", "math/bits.deBruijn32tab", "math/bits.deBruijn64tab"], apart := false, laid := [("math/bits.deBruijn32tab", laid_math_bits_deBruijn32tab), ("math/bits.deBruijn64tab", laid_math_bits_deBruijn64tab), ("internal/strconv.uint64pow10", laid_internal_strconv_uint64pow10)] }
def FnExactParcelTextSaid : Prop := fnExactParcelTextRow.holds Tryd.pinned (OpenSpec.ofChange fnExactParcelTextSpec)

/-- ITS FALSE NEIGHBOUR: 'it returns false'. Refute it at one input. -/
def fnExactParcelTextWrong : ChangeSpec := { name := "fnExactParcelText", fn := fun _ => fun
  | [d] => { results := [.lit (.bool false)], args := [d] }
  | _ => none }
def FnExactParcelTextWrongFalsely : Prop := fnExactParcelTextRow.holds Tryd.pinned (OpenSpec.ofChange fnExactParcelTextWrong)

/-- 'laws.FnExactDefectText': WHATEVER THE INPUT: true; the input reads as it did. -/
def fnExactDefectTextSpec : ChangeSpec := { name := "fnExactDefectText", fn := fun _ => fun
  | [d] => { results := [.lit (.bool true)], args := [d] }
  | _ => none }
def fnExactDefectTextRow : OpenClaim := { program := "ytjnbdmpgkbbmmaadoor", sum := "a6be9423e60153307fd30ce84946e1b8baeaf4c17ebbad6c8ef6b279e4730ce3", func := "loop.example/g01032/laws.FnExactDefectText", spec := "fnExactDefectText", named := ["internal/strconv.uint64pow10", "math/bits.deBruijn32tab", "math/bits.deBruijn64tab"], apart := false, laid := [("math/bits.deBruijn32tab", laid_math_bits_deBruijn32tab), ("math/bits.deBruijn64tab", laid_math_bits_deBruijn64tab), ("internal/strconv.uint64pow10", laid_internal_strconv_uint64pow10)] }
def FnExactDefectTextSaid : Prop := fnExactDefectTextRow.holds Tryd.pinned (OpenSpec.ofChange fnExactDefectTextSpec)

/-- ITS FALSE NEIGHBOUR: 'it returns false'. Refute it at one input. -/
def fnExactDefectTextWrong : ChangeSpec := { name := "fnExactDefectText", fn := fun _ => fun
  | [d] => { results := [.lit (.bool false)], args := [d] }
  | _ => none }
def FnExactDefectTextWrongFalsely : Prop := fnExactDefectTextRow.holds Tryd.pinned (OpenSpec.ofChange fnExactDefectTextWrong)

/-- 'laws.FnExactGuardText': WHATEVER THE INPUT: true; the input reads as it did. -/
def fnExactGuardTextSpec : ChangeSpec := { name := "fnExactGuardText", fn := fun _ => fun
  | [d] => { results := [.lit (.bool true)], args := [d] }
  | _ => none }
def fnExactGuardTextRow : OpenClaim := { program := "ytjnbdmpgkbbmmaadoor", sum := "a6be9423e60153307fd30ce84946e1b8baeaf4c17ebbad6c8ef6b279e4730ce3", func := "loop.example/g01032/laws.FnExactGuardText", spec := "fnExactGuardText", named := ["internal/strconv.uint64pow10", "math/bits.deBruijn32tab", "math/bits.deBruijn64tab"], apart := false, laid := [("math/bits.deBruijn32tab", laid_math_bits_deBruijn32tab), ("math/bits.deBruijn64tab", laid_math_bits_deBruijn64tab), ("internal/strconv.uint64pow10", laid_internal_strconv_uint64pow10)] }
def FnExactGuardTextSaid : Prop := fnExactGuardTextRow.holds Tryd.pinned (OpenSpec.ofChange fnExactGuardTextSpec)

/-- ITS FALSE NEIGHBOUR: 'it returns false'. Refute it at one input. -/
def fnExactGuardTextWrong : ChangeSpec := { name := "fnExactGuardText", fn := fun _ => fun
  | [d] => { results := [.lit (.bool false)], args := [d] }
  | _ => none }
def FnExactGuardTextWrongFalsely : Prop := fnExactGuardTextRow.holds Tryd.pinned (OpenSpec.ofChange fnExactGuardTextWrong)

/-- 'laws.FnExactAlarmsText': WHATEVER THE INPUT: true; the input reads as it did. -/
def fnExactAlarmsTextSpec : ChangeSpec := { name := "fnExactAlarmsText", fn := fun _ => fun
  | [d] => { results := [.lit (.bool true)], args := [d] }
  | _ => none }
def fnExactAlarmsTextRow : OpenClaim := { program := "ytjnbdmpgkbbmmaadoor", sum := "a6be9423e60153307fd30ce84946e1b8baeaf4c17ebbad6c8ef6b279e4730ce3", func := "loop.example/g01032/laws.FnExactAlarmsText", spec := "fnExactAlarmsText", inPlace := ["internal/abi.NoEscape", "internal/bytealg.MakeNoZero"], named := ["internal/strconv.uint64pow10", "math/bits.deBruijn32tab", "math/bits.deBruijn64tab"], apart := false, laid := [("math/bits.deBruijn32tab", laid_math_bits_deBruijn32tab), ("math/bits.deBruijn64tab", laid_math_bits_deBruijn64tab), ("internal/strconv.uint64pow10", laid_internal_strconv_uint64pow10)] }
def FnExactAlarmsTextSaid : Prop := fnExactAlarmsTextRow.holds Tryd.pinned (OpenSpec.ofChange fnExactAlarmsTextSpec)

/-- ITS FALSE NEIGHBOUR: 'it returns false'. Refute it at one input. -/
def fnExactAlarmsTextWrong : ChangeSpec := { name := "fnExactAlarmsText", fn := fun _ => fun
  | [d] => { results := [.lit (.bool false)], args := [d] }
  | _ => none }
def FnExactAlarmsTextWrongFalsely : Prop := fnExactAlarmsTextRow.holds Tryd.pinned (OpenSpec.ofChange fnExactAlarmsTextWrong)

/-- 'laws.FnExactReadDefect': WHATEVER THE INPUT: true; the input reads as it did. -/
def fnExactReadDefectSpec : ChangeSpec := { name := "fnExactReadDefect", fn := fun _ => fun
  | [d] => { results := [.lit (.bool true)], args := [d] }
  | _ => none }
def fnExactReadDefectRow : OpenClaim := { program := "ytjnbdmpgkbbmmaadoor", sum := "a6be9423e60153307fd30ce84946e1b8baeaf4c17ebbad6c8ef6b279e4730ce3", func := "loop.example/g01032/laws.FnExactReadDefect", spec := "fnExactReadDefect", unfollowed := true, recurses := true, named := ["strconv.ErrSyntax", "strconv.ErrRange", "internal/strconv.uint64pow10", "math/bits.deBruijn32tab", "math/bits.deBruijn64tab"], apart := false, laid := [("math/bits.deBruijn32tab", laid_math_bits_deBruijn32tab), ("math/bits.deBruijn64tab", laid_math_bits_deBruijn64tab), ("internal/strconv.uint64pow10", laid_internal_strconv_uint64pow10), ("strconv.ErrRange", laid_strconv_ErrRange), ("strconv.ErrSyntax", laid_strconv_ErrSyntax)] }
def FnExactReadDefectSaid : Prop := fnExactReadDefectRow.holds Tryd.pinned (OpenSpec.ofChange fnExactReadDefectSpec)

/-- ITS FALSE NEIGHBOUR: 'it returns false'. Refute it at one input. -/
def fnExactReadDefectWrong : ChangeSpec := { name := "fnExactReadDefect", fn := fun _ => fun
  | [d] => { results := [.lit (.bool false)], args := [d] }
  | _ => none }
def FnExactReadDefectWrongFalsely : Prop := fnExactReadDefectRow.holds Tryd.pinned (OpenSpec.ofChange fnExactReadDefectWrong)

/-- 'laws.FnExactReadGuard': WHATEVER THE INPUT: true; the input reads as it did. -/
def fnExactReadGuardSpec : ChangeSpec := { name := "fnExactReadGuard", fn := fun _ => fun
  | [d] => { results := [.lit (.bool true)], args := [d] }
  | _ => none }
def fnExactReadGuardRow : OpenClaim := { program := "ytjnbdmpgkbbmmaadoor", sum := "a6be9423e60153307fd30ce84946e1b8baeaf4c17ebbad6c8ef6b279e4730ce3", func := "loop.example/g01032/laws.FnExactReadGuard", spec := "fnExactReadGuard", inPlace := ["internal/bytealg.IndexByteString", "internal/bytealg.IndexString"], unfollowed := true, recurses := true, named := ["internal/bytealg.MaxLen", "strconv.ErrSyntax", "strconv.ErrRange", "internal/strconv.uint64pow10", "math/bits.deBruijn32tab", "math/bits.deBruijn64tab"], apart := false, laid := [("math/bits.deBruijn32tab", laid_math_bits_deBruijn32tab), ("math/bits.deBruijn64tab", laid_math_bits_deBruijn64tab), ("internal/strconv.uint64pow10", laid_internal_strconv_uint64pow10), ("strconv.ErrRange", laid_strconv_ErrRange), ("strconv.ErrSyntax", laid_strconv_ErrSyntax)] }
def FnExactReadGuardSaid : Prop := fnExactReadGuardRow.holds Tryd.pinned (OpenSpec.ofChange fnExactReadGuardSpec)

/-- ITS FALSE NEIGHBOUR: 'it returns false'. Refute it at one input. -/
def fnExactReadGuardWrong : ChangeSpec := { name := "fnExactReadGuard", fn := fun _ => fun
  | [d] => { results := [.lit (.bool false)], args := [d] }
  | _ => none }
def FnExactReadGuardWrongFalsely : Prop := fnExactReadGuardRow.holds Tryd.pinned (OpenSpec.ofChange fnExactReadGuardWrong)

/-- 'laws.FnExactReadParcel': WHATEVER THE INPUT: true; the input reads as it did. -/
def fnExactReadParcelSpec : ChangeSpec := { name := "fnExactReadParcel", fn := fun _ => fun
  | [d] => { results := [.lit (.bool true)], args := [d] }
  | _ => none }
def fnExactReadParcelRow : OpenClaim := { program := "ytjnbdmpgkbbmmaadoor", sum := "a6be9423e60153307fd30ce84946e1b8baeaf4c17ebbad6c8ef6b279e4730ce3", func := "loop.example/g01032/laws.FnExactReadParcel", spec := "fnExactReadParcel", unfollowed := true, recurses := true, named := ["strconv.ErrSyntax", "strconv.ErrRange", "internal/strconv.uint64pow10", "math/bits.deBruijn32tab", "math/bits.deBruijn64tab"], apart := false, laid := [("math/bits.deBruijn32tab", laid_math_bits_deBruijn32tab), ("math/bits.deBruijn64tab", laid_math_bits_deBruijn64tab), ("internal/strconv.uint64pow10", laid_internal_strconv_uint64pow10), ("strconv.ErrRange", laid_strconv_ErrRange), ("strconv.ErrSyntax", laid_strconv_ErrSyntax)] }
def FnExactReadParcelSaid : Prop := fnExactReadParcelRow.holds Tryd.pinned (OpenSpec.ofChange fnExactReadParcelSpec)

/-- ITS FALSE NEIGHBOUR: 'it returns false'. Refute it at one input. -/
def fnExactReadParcelWrong : ChangeSpec := { name := "fnExactReadParcel", fn := fun _ => fun
  | [d] => { results := [.lit (.bool false)], args := [d] }
  | _ => none }
def FnExactReadParcelWrongFalsely : Prop := fnExactReadParcelRow.holds Tryd.pinned (OpenSpec.ofChange fnExactReadParcelWrong)

/- THE SECOND FORM. 'bulk': how many values and letters a reading holds, each counted each time it is reached (what is shared counts as often as it is met; a slice's spare places count too). A statement '..UptoSaid' is the law's where the arguments, and the package variables that the reading takes, are together of bulk at most 1048576: NARROWER than '..Said'. Prove '..Said' where nothing that the law and all that it calls make is longer than what came in: it says more and counts as full. Else prove '..UptoSaid'. A law counts once. -/
mutual
def uptoBulk {H : Type} : DataW H → Nat
  | .lit (.string bytes) => bytes.length + 1
  | .lit _ => 1
  | .nil => 1
  | .ptr d => uptoBulk d + 1
  | .slice elems spare => uptoBulkAll elems + uptoBulkAll spare + 1
  | .agg parts => uptoBulkAll parts + 1
  | .iface _ d => uptoBulk d + 1
  | .map entries => uptoBulkEntries entries + 1
  | .held _ => 1
def uptoBulkAll {H : Type} : List (DataW H) → Nat
  | [] => 0
  | d :: r => uptoBulk d + uptoBulkAll r
def uptoBulkEntries {H : Type} : List (Lit × DataW H) → Nat
  | [] => 0
  | x :: r => uptoBulkEntry x + uptoBulkEntries r
def uptoBulkEntry {H : Type} : Lit × DataW H → Nat
  | (.string bytes, d) => bytes.length + uptoBulk d + 1
  | (_, d) => uptoBulk d + 1
 end
def uptoSmall : (H : Type) → List (DataW H) → Bool := fun _ ds => decide (uptoBulkAll ds ≤ 1048576)
def OpenSpec.upto (s : _root_.Go.ChangeSpec) : _root_.Go.OpenSpec := { _root_.Go.OpenSpec.ofChange s with cond := some uptoSmall }

/-- 'laws.FnExactBillText', WHERE WHAT IT READS IS OF BULK AT MOST 1048576: true; the input reads as it did. -/
def fnExactBillTextUptoRow : OpenClaim := { program := "ytjnbdmpgkbbmmaadoor", sum := "a6be9423e60153307fd30ce84946e1b8baeaf4c17ebbad6c8ef6b279e4730ce3", func := "loop.example/g01032/laws.FnExactBillText", spec := "fnExactBillText", named := ["internal/strconv.uint64pow10", "math/bits.deBruijn32tab", "math/bits.deBruijn64tab"], apart := false, laid := [("math/bits.deBruijn32tab", laid_math_bits_deBruijn32tab), ("math/bits.deBruijn64tab", laid_math_bits_deBruijn64tab), ("internal/strconv.uint64pow10", laid_internal_strconv_uint64pow10)], narrowed := true }
def FnExactBillTextUptoSaid : Prop := fnExactBillTextUptoRow.holds Tryd.pinned (OpenSpec.upto fnExactBillTextSpec)

/-- 'laws.FnExactParcelText', WHERE WHAT IT READS IS OF BULK AT MOST 1048576: true; the input reads as it did. -/
def fnExactParcelTextUptoRow : OpenClaim := { program := "ytjnbdmpgkbbmmaadoor", sum := "a6be9423e60153307fd30ce84946e1b8baeaf4c17ebbad6c8ef6b279e4730ce3", func := "loop.example/g01032/laws.FnExactParcelText", spec := "fnExactParcelText", named := ["internal/strconv.uint64pow10", "math/bits.deBruijn32tab", "math/bits.deBruijn64tab"], apart := false, laid := [("math/bits.deBruijn32tab", laid_math_bits_deBruijn32tab), ("math/bits.deBruijn64tab", laid_math_bits_deBruijn64tab), ("internal/strconv.uint64pow10", laid_internal_strconv_uint64pow10)], narrowed := true }
def FnExactParcelTextUptoSaid : Prop := fnExactParcelTextUptoRow.holds Tryd.pinned (OpenSpec.upto fnExactParcelTextSpec)

/-- 'laws.FnExactDefectText', WHERE WHAT IT READS IS OF BULK AT MOST 1048576: true; the input reads as it did. -/
def fnExactDefectTextUptoRow : OpenClaim := { program := "ytjnbdmpgkbbmmaadoor", sum := "a6be9423e60153307fd30ce84946e1b8baeaf4c17ebbad6c8ef6b279e4730ce3", func := "loop.example/g01032/laws.FnExactDefectText", spec := "fnExactDefectText", named := ["internal/strconv.uint64pow10", "math/bits.deBruijn32tab", "math/bits.deBruijn64tab"], apart := false, laid := [("math/bits.deBruijn32tab", laid_math_bits_deBruijn32tab), ("math/bits.deBruijn64tab", laid_math_bits_deBruijn64tab), ("internal/strconv.uint64pow10", laid_internal_strconv_uint64pow10)], narrowed := true }
def FnExactDefectTextUptoSaid : Prop := fnExactDefectTextUptoRow.holds Tryd.pinned (OpenSpec.upto fnExactDefectTextSpec)

/-- 'laws.FnExactGuardText', WHERE WHAT IT READS IS OF BULK AT MOST 1048576: true; the input reads as it did. -/
def fnExactGuardTextUptoRow : OpenClaim := { program := "ytjnbdmpgkbbmmaadoor", sum := "a6be9423e60153307fd30ce84946e1b8baeaf4c17ebbad6c8ef6b279e4730ce3", func := "loop.example/g01032/laws.FnExactGuardText", spec := "fnExactGuardText", named := ["internal/strconv.uint64pow10", "math/bits.deBruijn32tab", "math/bits.deBruijn64tab"], apart := false, laid := [("math/bits.deBruijn32tab", laid_math_bits_deBruijn32tab), ("math/bits.deBruijn64tab", laid_math_bits_deBruijn64tab), ("internal/strconv.uint64pow10", laid_internal_strconv_uint64pow10)], narrowed := true }
def FnExactGuardTextUptoSaid : Prop := fnExactGuardTextUptoRow.holds Tryd.pinned (OpenSpec.upto fnExactGuardTextSpec)

/-- 'laws.FnExactAlarmsText', WHERE WHAT IT READS IS OF BULK AT MOST 1048576: true; the input reads as it did. -/
def fnExactAlarmsTextUptoRow : OpenClaim := { program := "ytjnbdmpgkbbmmaadoor", sum := "a6be9423e60153307fd30ce84946e1b8baeaf4c17ebbad6c8ef6b279e4730ce3", func := "loop.example/g01032/laws.FnExactAlarmsText", spec := "fnExactAlarmsText", inPlace := ["internal/abi.NoEscape", "internal/bytealg.MakeNoZero"], named := ["internal/strconv.uint64pow10", "math/bits.deBruijn32tab", "math/bits.deBruijn64tab"], apart := false, laid := [("math/bits.deBruijn32tab", laid_math_bits_deBruijn32tab), ("math/bits.deBruijn64tab", laid_math_bits_deBruijn64tab), ("internal/strconv.uint64pow10", laid_internal_strconv_uint64pow10)], narrowed := true }
def FnExactAlarmsTextUptoSaid : Prop := fnExactAlarmsTextUptoRow.holds Tryd.pinned (OpenSpec.upto fnExactAlarmsTextSpec)

/-- 'laws.FnExactReadDefect', WHERE WHAT IT READS IS OF BULK AT MOST 1048576: true; the input reads as it did. -/
def fnExactReadDefectUptoRow : OpenClaim := { program := "ytjnbdmpgkbbmmaadoor", sum := "a6be9423e60153307fd30ce84946e1b8baeaf4c17ebbad6c8ef6b279e4730ce3", func := "loop.example/g01032/laws.FnExactReadDefect", spec := "fnExactReadDefect", unfollowed := true, recurses := true, named := ["strconv.ErrSyntax", "strconv.ErrRange", "internal/strconv.uint64pow10", "math/bits.deBruijn32tab", "math/bits.deBruijn64tab"], apart := false, laid := [("math/bits.deBruijn32tab", laid_math_bits_deBruijn32tab), ("math/bits.deBruijn64tab", laid_math_bits_deBruijn64tab), ("internal/strconv.uint64pow10", laid_internal_strconv_uint64pow10), ("strconv.ErrRange", laid_strconv_ErrRange), ("strconv.ErrSyntax", laid_strconv_ErrSyntax)], narrowed := true }
def FnExactReadDefectUptoSaid : Prop := fnExactReadDefectUptoRow.holds Tryd.pinned (OpenSpec.upto fnExactReadDefectSpec)

/-- 'laws.FnExactReadGuard', WHERE WHAT IT READS IS OF BULK AT MOST 1048576: true; the input reads as it did. -/
def fnExactReadGuardUptoRow : OpenClaim := { program := "ytjnbdmpgkbbmmaadoor", sum := "a6be9423e60153307fd30ce84946e1b8baeaf4c17ebbad6c8ef6b279e4730ce3", func := "loop.example/g01032/laws.FnExactReadGuard", spec := "fnExactReadGuard", inPlace := ["internal/bytealg.IndexByteString", "internal/bytealg.IndexString"], unfollowed := true, recurses := true, named := ["internal/bytealg.MaxLen", "strconv.ErrSyntax", "strconv.ErrRange", "internal/strconv.uint64pow10", "math/bits.deBruijn32tab", "math/bits.deBruijn64tab"], apart := false, laid := [("math/bits.deBruijn32tab", laid_math_bits_deBruijn32tab), ("math/bits.deBruijn64tab", laid_math_bits_deBruijn64tab), ("internal/strconv.uint64pow10", laid_internal_strconv_uint64pow10), ("strconv.ErrRange", laid_strconv_ErrRange), ("strconv.ErrSyntax", laid_strconv_ErrSyntax)], narrowed := true }
def FnExactReadGuardUptoSaid : Prop := fnExactReadGuardUptoRow.holds Tryd.pinned (OpenSpec.upto fnExactReadGuardSpec)

/-- 'laws.FnExactReadParcel', WHERE WHAT IT READS IS OF BULK AT MOST 1048576: true; the input reads as it did. -/
def fnExactReadParcelUptoRow : OpenClaim := { program := "ytjnbdmpgkbbmmaadoor", sum := "a6be9423e60153307fd30ce84946e1b8baeaf4c17ebbad6c8ef6b279e4730ce3", func := "loop.example/g01032/laws.FnExactReadParcel", spec := "fnExactReadParcel", unfollowed := true, recurses := true, named := ["strconv.ErrSyntax", "strconv.ErrRange", "internal/strconv.uint64pow10", "math/bits.deBruijn32tab", "math/bits.deBruijn64tab"], apart := false, laid := [("math/bits.deBruijn32tab", laid_math_bits_deBruijn32tab), ("math/bits.deBruijn64tab", laid_math_bits_deBruijn64tab), ("internal/strconv.uint64pow10", laid_internal_strconv_uint64pow10), ("strconv.ErrRange", laid_strconv_ErrRange), ("strconv.ErrSyntax", laid_strconv_ErrSyntax)], narrowed := true }
def FnExactReadParcelUptoSaid : Prop := fnExactReadParcelUptoRow.holds Tryd.pinned (OpenSpec.upto fnExactReadParcelSpec)

end Rows
end Go.Proofs.YtjnbdmpgkbbmmaaDoor
