/-
  DERIVED. GIVEN WITH THE SEED: THE CARDS: each row of YtmnhaoadhkdinaaGreatDoorRows.lean that lists a variable, with what it lists TIED to the program's text (the seventh form; the later family's looks); each row that meets fmt, with fmt's text TOLD by the authors' own Lean function (tested against real Go, not proved from fmt's source: count such statements apart). THE CARD IS WHAT COUNTS. Prove the row's statement (the work); the ties are given (YtmnhaoadhkdinaaGreatDoorTie.lean); close each card by the builder's one call (the guide's Derived/Test/ToyasCard.lean, 'card_holds'). Laid BY PROGRAM, IN A SANDBOX (cutbox-door.mjs). By AI agents, Wed Nov 11 2026. No macro, syntax, notation, axiom, sorry.
-/
import Derived.Test.YtmnhaoadhkdinaaGreatDoorRows
import GoSem.ClaimSeven
namespace Go.Proofs.YtmnhaoadhkdinaaGreatDoor
namespace Rows

/-- THE TIED CARD OF 'tranchelaw16.ReconCaches'. -/
def reconCachesCard : Claim7 := { stood := { row := reconCachesRow, standIns := [], harness := (true, "d25c06df65bc3982dbbc588a879d5753d0a53667a1d8d4cbc1098afe61a4b3ea"), looks := true }, kinds := [], alts := [], laidByText := true, laidKinds := [.data, .data, .data, .sentinel, .sentinel], laidTests := true, laidLooks := .later }
def ReconCachesCardSaid : Prop := Claim7.holds Tryz.pinned (.plain (OpenSpec.ofChange reconCachesSpec)) reconCachesCard

/-- THE SECOND FORM's CARD OF 'tranchelaw16.ReconCaches'. -/
def reconCachesUptoCard : Claim7 := { stood := { row := reconCachesUptoRow, standIns := [], harness := (true, "d25c06df65bc3982dbbc588a879d5753d0a53667a1d8d4cbc1098afe61a4b3ea"), looks := true }, kinds := [], alts := [], laidByText := true, laidKinds := [.data, .data, .data, .sentinel, .sentinel], laidTests := true, laidLooks := .later }
def ReconCachesUptoCardSaid : Prop := Claim7.holds Tryz.pinned (.plain (OpenSpec.upto reconCachesSpec)) reconCachesUptoCard
end Rows
end Go.Proofs.YtmnhaoadhkdinaaGreatDoor
