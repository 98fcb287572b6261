/-
  DERIVED. GIVEN WITH THE SEED: THE CARDS: each row of YtdcindnnbmilaaaGreatDoorRows.lean that lists a variable, with what it lists TIED to the program's text (the seventh form; the later family's looks); each row that meets fmt, with fmt's text TOLD by the authors' own Lean function (tested against real Go, not proved from fmt's source: count such statements apart). THE CARD IS WHAT COUNTS. Prove the row's statement (the work); the ties are given (YtdcindnnbmilaaaGreatDoorTie.lean); close each card by the builder's one call (the guide's Derived/Test/ToyasCard.lean, 'card_holds'). Laid BY PROGRAM, IN A SANDBOX (cutbox-door.mjs). By AI agents, Wed Nov 11 2026. No macro, syntax, notation, axiom, sorry.
-/
import Derived.Test.YtdcindnnbmilaaaGreatDoorRows
import GoSem.ClaimSeven
namespace Go.Proofs.YtdcindnnbmilaaaGreatDoor
namespace Rows

/-- THE TIED CARD OF 'tranchelaw25.ShardParts'. -/
def shardPartsCard : Claim7 := { stood := { row := shardPartsRow, standIns := [], harness := (true, "8d5a3c521f33c3d6eb9a9e28e8d9a6d212360584719366d8c1fa5a23b43eaebe"), looks := true }, kinds := [], alts := [], laidByText := true, laidKinds := [.data, .data, .data, .sentinel, .sentinel], laidTests := true, laidLooks := .later }
def ShardPartsCardSaid : Prop := Claim7.holds Tryz.pinned (.plain (OpenSpec.ofChange shardPartsSpec)) shardPartsCard

/-- THE SECOND FORM's CARD OF 'tranchelaw25.ShardParts'. -/
def shardPartsUptoCard : Claim7 := { stood := { row := shardPartsUptoRow, standIns := [], harness := (true, "8d5a3c521f33c3d6eb9a9e28e8d9a6d212360584719366d8c1fa5a23b43eaebe"), looks := true }, kinds := [], alts := [], laidByText := true, laidKinds := [.data, .data, .data, .sentinel, .sentinel], laidTests := true, laidLooks := .later }
def ShardPartsUptoCardSaid : Prop := Claim7.holds Tryz.pinned (.plain (OpenSpec.upto shardPartsSpec)) shardPartsUptoCard
end Rows
end Go.Proofs.YtdcindnnbmilaaaGreatDoor
