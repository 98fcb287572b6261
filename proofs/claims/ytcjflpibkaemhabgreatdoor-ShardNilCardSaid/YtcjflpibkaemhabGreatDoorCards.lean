/-
  DERIVED. GIVEN WITH THE SEED: THE CARDS: each row of YtcjflpibkaemhabGreatDoorRows.lean that lists a variable, with what it lists TIED to the program's text (the seventh form; the later family's looks); each row that meets fmt, with fmt's text TOLD by the authors' own Lean function (tested against real Go, not proved from fmt's source: count such statements apart). THE CARD IS WHAT COUNTS. Prove the row's statement (the work); the ties are given (YtcjflpibkaemhabGreatDoorTie.lean); close each card by the builder's one call (the guide's Derived/Test/ToyasCard.lean, 'card_holds'). Laid BY PROGRAM, IN A SANDBOX (cutbox-door.mjs). By AI agents, Wed Nov 11 2026. No macro, syntax, notation, axiom, sorry.
-/
import Derived.Test.YtcjflpibkaemhabGreatDoorRows
import GoSem.ClaimSeven
namespace Go.Proofs.YtcjflpibkaemhabGreatDoor
namespace Rows

/-- THE TIED CARD OF 'tranchelaw25.ShardNil'. -/
def shardNilCard : Claim7 := { stood := { row := shardNilRow, standIns := [], harness := (true, "5d06fbbc96ae78ffec8c1b13aaf1f7c68fe0b89e9072430ca972a06007ec754c"), looks := true }, kinds := [], alts := [], laidByText := true, laidKinds := [.data, .data, .data, .sentinel, .sentinel, .sentinel], laidTests := true, laidLooks := .later }
def ShardNilCardSaid : Prop := Claim7.holds Tryz.pinned (.plain (OpenSpec.ofChange shardNilSpec)) shardNilCard

/-- THE SECOND FORM's CARD OF 'tranchelaw25.ShardNil'. -/
def shardNilUptoCard : Claim7 := { stood := { row := shardNilUptoRow, standIns := [], harness := (true, "5d06fbbc96ae78ffec8c1b13aaf1f7c68fe0b89e9072430ca972a06007ec754c"), looks := true }, kinds := [], alts := [], laidByText := true, laidKinds := [.data, .data, .data, .sentinel, .sentinel, .sentinel], laidTests := true, laidLooks := .later }
def ShardNilUptoCardSaid : Prop := Claim7.holds Tryz.pinned (.plain (OpenSpec.upto shardNilSpec)) shardNilUptoCard
end Rows
end Go.Proofs.YtcjflpibkaemhabGreatDoor
