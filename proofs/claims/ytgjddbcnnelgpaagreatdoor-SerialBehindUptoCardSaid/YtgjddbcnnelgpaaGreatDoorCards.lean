/-
  DERIVED. GIVEN WITH THE SEED: THE CARDS: each row of YtgjddbcnnelgpaaGreatDoorRows.lean that lists a variable, with what it lists TIED to the program's text (the seventh form; the later family's looks); each row that meets fmt, with fmt's text TOLD by the authors' own Lean function (tested against real Go, not proved from fmt's source: count such statements apart). THE CARD IS WHAT COUNTS. Prove the row's statement (the work); the ties are given (YtgjddbcnnelgpaaGreatDoorTie.lean); close each card by the builder's one call (the guide's Derived/Test/ToyasCard.lean, 'card_holds'). Laid BY PROGRAM, IN A SANDBOX (cutbox-door.mjs). By AI agents, Wed Nov 11 2026. No macro, syntax, notation, axiom, sorry.
-/
import Derived.Test.YtgjddbcnnelgpaaGreatDoorRows
import GoSem.ClaimSeven
namespace Go.Proofs.YtgjddbcnnelgpaaGreatDoor
namespace Rows

/-- THE TIED CARD OF 'tranchelaw19.SerialBehind'. -/
def serialBehindCard : Claim7 := { stood := { row := serialBehindRow, standIns := [], harness := (true, "994c37a4405f12c223564546a9274cce7eaddf83733e6265004747fab2284bd5"), looks := true }, kinds := [], alts := [], laidByText := true, laidKinds := [.data, .data, .data, .sentinel, .sentinel], laidTests := true, laidLooks := .later }
def SerialBehindCardSaid : Prop := Claim7.holds Tryz.pinned (.plain (OpenSpec.ofChange serialBehindSpec)) serialBehindCard

/-- THE TIED CARD OF 'tranchelaw19.SerialTexts'. -/
def serialTextsCard : Claim7 := { stood := { row := serialTextsRow, standIns := [], harness := (true, "994c37a4405f12c223564546a9274cce7eaddf83733e6265004747fab2284bd5"), looks := true }, kinds := [], alts := [], laidByText := true, laidKinds := [.data, .data, .data, .sentinel, .sentinel, .data], laidTests := true, laidLooks := .later }
def SerialTextsCardSaid : Prop := Claim7.holds Tryz.pinned (.plain (OpenSpec.ofChange serialTextsSpec)) serialTextsCard

/-- THE SECOND FORM's CARD OF 'tranchelaw19.SerialBehind'. -/
def serialBehindUptoCard : Claim7 := { stood := { row := serialBehindUptoRow, standIns := [], harness := (true, "994c37a4405f12c223564546a9274cce7eaddf83733e6265004747fab2284bd5"), looks := true }, kinds := [], alts := [], laidByText := true, laidKinds := [.data, .data, .data, .sentinel, .sentinel], laidTests := true, laidLooks := .later }
def SerialBehindUptoCardSaid : Prop := Claim7.holds Tryz.pinned (.plain (OpenSpec.upto serialBehindSpec)) serialBehindUptoCard

/-- THE SECOND FORM's CARD OF 'tranchelaw19.SerialTexts'. -/
def serialTextsUptoCard : Claim7 := { stood := { row := serialTextsUptoRow, standIns := [], harness := (true, "994c37a4405f12c223564546a9274cce7eaddf83733e6265004747fab2284bd5"), looks := true }, kinds := [], alts := [], laidByText := true, laidKinds := [.data, .data, .data, .sentinel, .sentinel, .data], laidTests := true, laidLooks := .later }
def SerialTextsUptoCardSaid : Prop := Claim7.holds Tryz.pinned (.plain (OpenSpec.upto serialTextsSpec)) serialTextsUptoCard
end Rows
end Go.Proofs.YtgjddbcnnelgpaaGreatDoor
