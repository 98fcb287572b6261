/-
  DERIVED. GIVEN WITH THE SEED: THE CARDS: each row of YtkgfpmbdiidlfaaGreatDoorRows.lean that lists a variable, with what it lists TIED to the program's text (the seventh form; the later family's looks); each row that meets fmt, with fmt's text TOLD by the authors' own Lean function (tested against real Go, not proved from fmt's source: count such statements apart). THE CARD IS WHAT COUNTS. Prove the row's statement (the work); the ties are given (YtkgfpmbdiidlfaaGreatDoorTie.lean); close each card by the builder's one call (the guide's Derived/Test/ToyasCard.lean, 'card_holds'). Laid BY PROGRAM, IN A SANDBOX (cutbox-door.mjs). By AI agents, Wed Nov 11 2026. No macro, syntax, notation, axiom, sorry.
-/
import Derived.Test.YtkgfpmbdiidlfaaGreatDoorRows
import GoSem.ClaimSeven
namespace Go.Proofs.YtkgfpmbdiidlfaaGreatDoor
namespace Rows

/-- THE TIED CARD OF 'tranchelaw17.WorkerNames'. -/
def workerNamesCard : Claim7 := { stood := { row := workerNamesRow, standIns := [], harness := (true, "aff0fe2018a4034931ec8333966d9360db4c43ff4b80fc5e02f10cbc4b6ff1eb"), looks := true }, kinds := [], alts := [], laidByText := true, laidKinds := [.data, .data, .data, .sentinel, .sentinel], laidTests := true, laidLooks := .later }
def WorkerNamesCardSaid : Prop := Claim7.holds Tryz.pinned (.plain (OpenSpec.ofChange workerNamesSpec)) workerNamesCard

/-- THE TIED CARD OF 'tranchelaw17.WorkerNil'. -/
def workerNilCard : Claim7 := { stood := { row := workerNilRow, standIns := [], harness := (true, "aff0fe2018a4034931ec8333966d9360db4c43ff4b80fc5e02f10cbc4b6ff1eb"), looks := true }, kinds := [], alts := [], laidByText := true, laidKinds := [.data, .data, .data, .sentinel, .sentinel], laidTests := true, laidLooks := .later }
def WorkerNilCardSaid : Prop := Claim7.holds Tryz.pinned (.plain (OpenSpec.ofChange workerNilSpec)) workerNilCard

/-- THE SECOND FORM's CARD OF 'tranchelaw17.WorkerNames'. -/
def workerNamesUptoCard : Claim7 := { stood := { row := workerNamesUptoRow, standIns := [], harness := (true, "aff0fe2018a4034931ec8333966d9360db4c43ff4b80fc5e02f10cbc4b6ff1eb"), looks := true }, kinds := [], alts := [], laidByText := true, laidKinds := [.data, .data, .data, .sentinel, .sentinel], laidTests := true, laidLooks := .later }
def WorkerNamesUptoCardSaid : Prop := Claim7.holds Tryz.pinned (.plain (OpenSpec.upto workerNamesSpec)) workerNamesUptoCard

/-- THE SECOND FORM's CARD OF 'tranchelaw17.WorkerNil'. -/
def workerNilUptoCard : Claim7 := { stood := { row := workerNilUptoRow, standIns := [], harness := (true, "aff0fe2018a4034931ec8333966d9360db4c43ff4b80fc5e02f10cbc4b6ff1eb"), looks := true }, kinds := [], alts := [], laidByText := true, laidKinds := [.data, .data, .data, .sentinel, .sentinel], laidTests := true, laidLooks := .later }
def WorkerNilUptoCardSaid : Prop := Claim7.holds Tryz.pinned (.plain (OpenSpec.upto workerNilSpec)) workerNilUptoCard
end Rows
end Go.Proofs.YtkgfpmbdiidlfaaGreatDoor
