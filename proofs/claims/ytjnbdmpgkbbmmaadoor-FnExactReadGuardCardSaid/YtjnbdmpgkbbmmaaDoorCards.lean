/-
  DERIVED. GIVEN WITH THE SEED: THE CARDS: each row of YtjnbdmpgkbbmmaaDoorRows.lean that lists a variable, with what it lists TIED to the program's text (the seventh form; the later family's looks); each row that meets fmt, with fmt's text TOLD by the authors' own Lean function (tested against real Go, not proved from fmt's source: count such statements apart). THE CARD IS WHAT COUNTS. Prove the row's statement (the work); the ties are given (YtjnbdmpgkbbmmaaDoorTie.lean); close each card by the builder's one call (the guide's Derived/Test/ToyasCard.lean, 'card_holds'). Laid BY PROGRAM, IN A SANDBOX (cutbox-door.mjs). By AI agents, Wed Nov 11 2026. No macro, syntax, notation, axiom, sorry.
-/
import Derived.Test.YtjnbdmpgkbbmmaaDoorRows
import GoSem.ClaimSeven
namespace Go.Proofs.YtjnbdmpgkbbmmaaDoor
namespace Rows

/-- THE TIED CARD OF 'laws.FnExactBillText'. -/
def fnExactBillTextCard : Claim7 := { stood := { row := fnExactBillTextRow, standIns := [], harness := (true, "d7e8a4f4a124d4b710e2c97cb3ea9323facd78c5137702fc7d393af6bd4d1af2"), looks := true }, kinds := [], alts := [], laidByText := true, laidKinds := [.data, .data, .data], laidTests := true, laidLooks := .later }
def FnExactBillTextCardSaid : Prop := Claim7.holds Tryd.pinned (.plain (OpenSpec.ofChange fnExactBillTextSpec)) fnExactBillTextCard

/-- THE TIED CARD OF 'laws.FnExactParcelText'. -/
def fnExactParcelTextCard : Claim7 := { stood := { row := fnExactParcelTextRow, standIns := [], harness := (true, "d7e8a4f4a124d4b710e2c97cb3ea9323facd78c5137702fc7d393af6bd4d1af2"), looks := true }, kinds := [], alts := [], laidByText := true, laidKinds := [.data, .data, .data], laidTests := true, laidLooks := .later }
def FnExactParcelTextCardSaid : Prop := Claim7.holds Tryd.pinned (.plain (OpenSpec.ofChange fnExactParcelTextSpec)) fnExactParcelTextCard

/-- THE TIED CARD OF 'laws.FnExactDefectText'. -/
def fnExactDefectTextCard : Claim7 := { stood := { row := fnExactDefectTextRow, standIns := [], harness := (true, "d7e8a4f4a124d4b710e2c97cb3ea9323facd78c5137702fc7d393af6bd4d1af2"), looks := true }, kinds := [], alts := [], laidByText := true, laidKinds := [.data, .data, .data], laidTests := true, laidLooks := .later }
def FnExactDefectTextCardSaid : Prop := Claim7.holds Tryd.pinned (.plain (OpenSpec.ofChange fnExactDefectTextSpec)) fnExactDefectTextCard

/-- THE TIED CARD OF 'laws.FnExactGuardText'. -/
def fnExactGuardTextCard : Claim7 := { stood := { row := fnExactGuardTextRow, standIns := [], harness := (true, "d7e8a4f4a124d4b710e2c97cb3ea9323facd78c5137702fc7d393af6bd4d1af2"), looks := true }, kinds := [], alts := [], laidByText := true, laidKinds := [.data, .data, .data], laidTests := true, laidLooks := .later }
def FnExactGuardTextCardSaid : Prop := Claim7.holds Tryd.pinned (.plain (OpenSpec.ofChange fnExactGuardTextSpec)) fnExactGuardTextCard

/-- THE TIED CARD OF 'laws.FnExactAlarmsText'. -/
def fnExactAlarmsTextCard : Claim7 := { stood := { row := fnExactAlarmsTextRow, standIns := [], harness := (true, "d7e8a4f4a124d4b710e2c97cb3ea9323facd78c5137702fc7d393af6bd4d1af2"), looks := true }, kinds := [], alts := [], laidByText := true, laidKinds := [.data, .data, .data], laidTests := true, laidLooks := .later }
def FnExactAlarmsTextCardSaid : Prop := Claim7.holds Tryd.pinned (.plain (OpenSpec.ofChange fnExactAlarmsTextSpec)) fnExactAlarmsTextCard

/-- THE TIED CARD OF 'laws.FnExactReadDefect'. -/
def fnExactReadDefectCard : Claim7 := { stood := { row := fnExactReadDefectRow, standIns := [], harness := (true, "d7e8a4f4a124d4b710e2c97cb3ea9323facd78c5137702fc7d393af6bd4d1af2"), looks := true }, kinds := [], alts := [], laidByText := true, laidKinds := [.data, .data, .data, .sentinel, .sentinel], laidTests := true, laidLooks := .later }
def FnExactReadDefectCardSaid : Prop := Claim7.holds Tryd.pinned (.plain (OpenSpec.ofChange fnExactReadDefectSpec)) fnExactReadDefectCard

/-- THE TIED CARD OF 'laws.FnExactReadGuard'. -/
def fnExactReadGuardCard : Claim7 := { stood := { row := fnExactReadGuardRow, standIns := [], harness := (true, "d7e8a4f4a124d4b710e2c97cb3ea9323facd78c5137702fc7d393af6bd4d1af2"), looks := true }, kinds := [], alts := [], laidByText := true, laidKinds := [.data, .data, .data, .sentinel, .sentinel], laidTests := true, laidLooks := .later }
def FnExactReadGuardCardSaid : Prop := Claim7.holds Tryd.pinned (.plain (OpenSpec.ofChange fnExactReadGuardSpec)) fnExactReadGuardCard

/-- THE TIED CARD OF 'laws.FnExactReadParcel'. -/
def fnExactReadParcelCard : Claim7 := { stood := { row := fnExactReadParcelRow, standIns := [], harness := (true, "d7e8a4f4a124d4b710e2c97cb3ea9323facd78c5137702fc7d393af6bd4d1af2"), looks := true }, kinds := [], alts := [], laidByText := true, laidKinds := [.data, .data, .data, .sentinel, .sentinel], laidTests := true, laidLooks := .later }
def FnExactReadParcelCardSaid : Prop := Claim7.holds Tryd.pinned (.plain (OpenSpec.ofChange fnExactReadParcelSpec)) fnExactReadParcelCard

/-- THE SECOND FORM's CARD OF 'laws.FnExactBillText'. -/
def fnExactBillTextUptoCard : Claim7 := { stood := { row := fnExactBillTextUptoRow, standIns := [], harness := (true, "d7e8a4f4a124d4b710e2c97cb3ea9323facd78c5137702fc7d393af6bd4d1af2"), looks := true }, kinds := [], alts := [], laidByText := true, laidKinds := [.data, .data, .data], laidTests := true, laidLooks := .later }
def FnExactBillTextUptoCardSaid : Prop := Claim7.holds Tryd.pinned (.plain (OpenSpec.upto fnExactBillTextSpec)) fnExactBillTextUptoCard

/-- THE SECOND FORM's CARD OF 'laws.FnExactParcelText'. -/
def fnExactParcelTextUptoCard : Claim7 := { stood := { row := fnExactParcelTextUptoRow, standIns := [], harness := (true, "d7e8a4f4a124d4b710e2c97cb3ea9323facd78c5137702fc7d393af6bd4d1af2"), looks := true }, kinds := [], alts := [], laidByText := true, laidKinds := [.data, .data, .data], laidTests := true, laidLooks := .later }
def FnExactParcelTextUptoCardSaid : Prop := Claim7.holds Tryd.pinned (.plain (OpenSpec.upto fnExactParcelTextSpec)) fnExactParcelTextUptoCard

/-- THE SECOND FORM's CARD OF 'laws.FnExactDefectText'. -/
def fnExactDefectTextUptoCard : Claim7 := { stood := { row := fnExactDefectTextUptoRow, standIns := [], harness := (true, "d7e8a4f4a124d4b710e2c97cb3ea9323facd78c5137702fc7d393af6bd4d1af2"), looks := true }, kinds := [], alts := [], laidByText := true, laidKinds := [.data, .data, .data], laidTests := true, laidLooks := .later }
def FnExactDefectTextUptoCardSaid : Prop := Claim7.holds Tryd.pinned (.plain (OpenSpec.upto fnExactDefectTextSpec)) fnExactDefectTextUptoCard

/-- THE SECOND FORM's CARD OF 'laws.FnExactGuardText'. -/
def fnExactGuardTextUptoCard : Claim7 := { stood := { row := fnExactGuardTextUptoRow, standIns := [], harness := (true, "d7e8a4f4a124d4b710e2c97cb3ea9323facd78c5137702fc7d393af6bd4d1af2"), looks := true }, kinds := [], alts := [], laidByText := true, laidKinds := [.data, .data, .data], laidTests := true, laidLooks := .later }
def FnExactGuardTextUptoCardSaid : Prop := Claim7.holds Tryd.pinned (.plain (OpenSpec.upto fnExactGuardTextSpec)) fnExactGuardTextUptoCard

/-- THE SECOND FORM's CARD OF 'laws.FnExactAlarmsText'. -/
def fnExactAlarmsTextUptoCard : Claim7 := { stood := { row := fnExactAlarmsTextUptoRow, standIns := [], harness := (true, "d7e8a4f4a124d4b710e2c97cb3ea9323facd78c5137702fc7d393af6bd4d1af2"), looks := true }, kinds := [], alts := [], laidByText := true, laidKinds := [.data, .data, .data], laidTests := true, laidLooks := .later }
def FnExactAlarmsTextUptoCardSaid : Prop := Claim7.holds Tryd.pinned (.plain (OpenSpec.upto fnExactAlarmsTextSpec)) fnExactAlarmsTextUptoCard

/-- THE SECOND FORM's CARD OF 'laws.FnExactReadDefect'. -/
def fnExactReadDefectUptoCard : Claim7 := { stood := { row := fnExactReadDefectUptoRow, standIns := [], harness := (true, "d7e8a4f4a124d4b710e2c97cb3ea9323facd78c5137702fc7d393af6bd4d1af2"), looks := true }, kinds := [], alts := [], laidByText := true, laidKinds := [.data, .data, .data, .sentinel, .sentinel], laidTests := true, laidLooks := .later }
def FnExactReadDefectUptoCardSaid : Prop := Claim7.holds Tryd.pinned (.plain (OpenSpec.upto fnExactReadDefectSpec)) fnExactReadDefectUptoCard

/-- THE SECOND FORM's CARD OF 'laws.FnExactReadGuard'. -/
def fnExactReadGuardUptoCard : Claim7 := { stood := { row := fnExactReadGuardUptoRow, standIns := [], harness := (true, "d7e8a4f4a124d4b710e2c97cb3ea9323facd78c5137702fc7d393af6bd4d1af2"), looks := true }, kinds := [], alts := [], laidByText := true, laidKinds := [.data, .data, .data, .sentinel, .sentinel], laidTests := true, laidLooks := .later }
def FnExactReadGuardUptoCardSaid : Prop := Claim7.holds Tryd.pinned (.plain (OpenSpec.upto fnExactReadGuardSpec)) fnExactReadGuardUptoCard

/-- THE SECOND FORM's CARD OF 'laws.FnExactReadParcel'. -/
def fnExactReadParcelUptoCard : Claim7 := { stood := { row := fnExactReadParcelUptoRow, standIns := [], harness := (true, "d7e8a4f4a124d4b710e2c97cb3ea9323facd78c5137702fc7d393af6bd4d1af2"), looks := true }, kinds := [], alts := [], laidByText := true, laidKinds := [.data, .data, .data, .sentinel, .sentinel], laidTests := true, laidLooks := .later }
def FnExactReadParcelUptoCardSaid : Prop := Claim7.holds Tryd.pinned (.plain (OpenSpec.upto fnExactReadParcelSpec)) fnExactReadParcelUptoCard
end Rows
end Go.Proofs.YtjnbdmpgkbbmmaaDoor
