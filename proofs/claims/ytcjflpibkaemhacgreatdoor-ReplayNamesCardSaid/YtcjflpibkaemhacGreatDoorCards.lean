/-
  DERIVED. GIVEN WITH THE SEED: THE CARDS: each row of YtcjflpibkaemhacGreatDoorRows.lean that lists a variable, with what it lists TIED to the program's text (the seventh form; the later family's looks); each row that meets fmt, with fmt's text TOLD by the authors' own Lean function (tested against real Go, not proved from fmt's source: count such statements apart). THE CARD IS WHAT COUNTS. Prove the row's statement (the work); the ties are given (YtcjflpibkaemhacGreatDoorTie.lean); close each card by the builder's one call (the guide's Derived/Test/ToyasCard.lean, 'card_holds'). Laid BY PROGRAM, IN A SANDBOX (cutbox-door.mjs). By AI agents, Wed Nov 11 2026. No macro, syntax, notation, axiom, sorry.
-/
import Derived.Test.YtcjflpibkaemhacGreatDoorRows
import GoSem.ClaimSeven
namespace Go.Proofs.YtcjflpibkaemhacGreatDoor
namespace Rows

/-- THE TIED CARD OF 'tranchelaw21.ReplayNames'. -/
def replayNamesCard : Claim7 := { stood := { row := replayNamesRow, standIns := [], harness := (true, "6e558759661c0bd46dabc960cd5febc1106f0ed6227296bb771b4292a63359b7"), looks := true }, kinds := [], alts := [], laidByText := true, laidKinds := [.data, .data, .data, .data, .sentinel, .sentinel, .sentinel, .data, .pinned], laidTests := true, laidLooks := .later }
def ReplayNamesCardSaid : Prop := Claim7.holds Tryz.pinned (.plain (OpenSpec.ofChange replayNamesSpec)) replayNamesCard

/-- THE SECOND FORM's CARD OF 'tranchelaw21.ReplayNames'. -/
def replayNamesUptoCard : Claim7 := { stood := { row := replayNamesUptoRow, standIns := [], harness := (true, "6e558759661c0bd46dabc960cd5febc1106f0ed6227296bb771b4292a63359b7"), looks := true }, kinds := [], alts := [], laidByText := true, laidKinds := [.data, .data, .data, .data, .sentinel, .sentinel, .sentinel, .data, .pinned], laidTests := true, laidLooks := .later }
def ReplayNamesUptoCardSaid : Prop := Claim7.holds Tryz.pinned (.plain (OpenSpec.upto replayNamesSpec)) replayNamesUptoCard
end Rows
end Go.Proofs.YtcjflpibkaemhacGreatDoor
