/-
  DERIVED. GIVEN WITH THE SEED: THE CARDS: each row of YtogjkcakoahpiaaDoorRows.lean that lists a variable, with what it lists TIED to the program's text (the seventh form; the later family's looks); each row that meets fmt, with fmt's text TOLD by the authors' own Lean function (tested against real Go, not proved from fmt's source: count such statements apart). THE CARD IS WHAT COUNTS. Prove the row's statement (the work); the ties are given (YtogjkcakoahpiaaDoorTie.lean); close each card by the builder's one call (the guide's Derived/Test/ToyasCard.lean, 'card_holds'). Laid BY PROGRAM, IN A SANDBOX (cutbox-door.mjs). By AI agents, Wed Nov 11 2026. No macro, syntax, notation, axiom, sorry.
-/
import Derived.Test.YtogjkcakoahpiaaDoorRows
import GoSem.ClaimSeven
namespace Go.Proofs.YtogjkcakoahpiaaDoor
namespace Rows

/-- THE TIED CARD OF 'laws.FnExactReadDefect'. -/
def fnExactReadDefectCard : Claim7 := { stood := { row := fnExactReadDefectRow, standIns := [], harness := (true, "d442ca518a84ce44caa2015d8e3f95b3914a0699343af537091c7636aedc6ec3"), looks := true }, kinds := [], alts := [], laidByText := true, laidKinds := [.data, .data, .data, .sentinel, .sentinel], laidTests := true, laidLooks := .later }
def FnExactReadDefectCardSaid : Prop := Claim7.holds Tryd.pinned (.plain (OpenSpec.ofChange fnExactReadDefectSpec)) fnExactReadDefectCard

/-- THE TIED CARD OF 'laws.FnExactDefectText'. -/
def fnExactDefectTextCard : Claim7 := { stood := { row := fnExactDefectTextRow, standIns := [], harness := (true, "d442ca518a84ce44caa2015d8e3f95b3914a0699343af537091c7636aedc6ec3"), looks := true }, kinds := [], alts := [], laidByText := true, laidKinds := [.data, .data, .data], laidTests := true, laidLooks := .later }
def FnExactDefectTextCardSaid : Prop := Claim7.holds Tryd.pinned (.plain (OpenSpec.ofChange fnExactDefectTextSpec)) fnExactDefectTextCard

/-- THE SECOND FORM's CARD OF 'laws.FnExactReadDefect'. -/
def fnExactReadDefectUptoCard : Claim7 := { stood := { row := fnExactReadDefectUptoRow, standIns := [], harness := (true, "d442ca518a84ce44caa2015d8e3f95b3914a0699343af537091c7636aedc6ec3"), looks := true }, kinds := [], alts := [], laidByText := true, laidKinds := [.data, .data, .data, .sentinel, .sentinel], laidTests := true, laidLooks := .later }
def FnExactReadDefectUptoCardSaid : Prop := Claim7.holds Tryd.pinned (.plain (OpenSpec.upto fnExactReadDefectSpec)) fnExactReadDefectUptoCard

/-- THE SECOND FORM's CARD OF 'laws.FnExactDefectText'. -/
def fnExactDefectTextUptoCard : Claim7 := { stood := { row := fnExactDefectTextUptoRow, standIns := [], harness := (true, "d442ca518a84ce44caa2015d8e3f95b3914a0699343af537091c7636aedc6ec3"), looks := true }, kinds := [], alts := [], laidByText := true, laidKinds := [.data, .data, .data], laidTests := true, laidLooks := .later }
def FnExactDefectTextUptoCardSaid : Prop := Claim7.holds Tryd.pinned (.plain (OpenSpec.upto fnExactDefectTextSpec)) fnExactDefectTextUptoCard
end Rows
end Go.Proofs.YtogjkcakoahpiaaDoor
