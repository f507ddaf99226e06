/-
  DERIVED. GIVEN WITH THE SEED: THE CARDS: each row of YtgbblcbpmpokdaaGreatDoorRows.lean that lists a variable, with what it lists TIED to the program's text (the seventh form; the later family's looks); each row that meets fmt, with fmt's text TOLD by the authors' own Lean function (tested against real Go, not proved from fmt's source: count such statements apart). THE CARD IS WHAT COUNTS. Prove the row's statement (the work); the ties are given (YtgbblcbpmpokdaaGreatDoorTie.lean); close each card by the builder's one call (the guide's Derived/Test/ToyasCard.lean, 'card_holds'). Laid BY PROGRAM, IN A SANDBOX (cutbox-door.mjs). By AI agents, Wed Nov 11 2026. No macro, syntax, notation, axiom, sorry.
-/
import Derived.Test.YtgbblcbpmpokdaaGreatDoorRows
import GoSem.ClaimSeven
namespace Go.Proofs.YtgbblcbpmpokdaaGreatDoor
namespace Rows

/-- THE TIED CARD OF 'laws.FnExactReadAlarms'. -/
def fnExactReadAlarmsCard : Claim7 := { stood := { row := fnExactReadAlarmsRow, standIns := [], harness := (true, "d170515632a545aa1df5eed31fe52f52ffe07e56d095906aaf245a1f9da41e6e"), looks := true }, kinds := [], alts := [], laidByText := true, laidKinds := [.data, .data, .data, .data, .sentinel, .sentinel, .pinned], laidTests := true, laidLooks := .later }
def FnExactReadAlarmsCardSaid : Prop := Claim7.holds Tryz.pinned (.plain (OpenSpec.ofChange fnExactReadAlarmsSpec)) fnExactReadAlarmsCard

/-- THE SECOND FORM's CARD OF 'laws.FnExactReadAlarms'. -/
def fnExactReadAlarmsUptoCard : Claim7 := { stood := { row := fnExactReadAlarmsUptoRow, standIns := [], harness := (true, "d170515632a545aa1df5eed31fe52f52ffe07e56d095906aaf245a1f9da41e6e"), looks := true }, kinds := [], alts := [], laidByText := true, laidKinds := [.data, .data, .data, .data, .sentinel, .sentinel, .pinned], laidTests := true, laidLooks := .later }
def FnExactReadAlarmsUptoCardSaid : Prop := Claim7.holds Tryz.pinned (.plain (OpenSpec.upto fnExactReadAlarmsSpec)) fnExactReadAlarmsUptoCard
end Rows
end Go.Proofs.YtgbblcbpmpokdaaGreatDoor
