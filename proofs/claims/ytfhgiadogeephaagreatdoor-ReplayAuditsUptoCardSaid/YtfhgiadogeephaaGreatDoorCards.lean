/-
  DERIVED. GIVEN WITH THE SEED: THE CARDS: each row of YtfhgiadogeephaaGreatDoorRows.lean that lists a variable, with what it lists TIED to the program's text (the seventh form; the later family's looks); each row that meets fmt, with fmt's text TOLD by the authors' own Lean function (tested against real Go, not proved from fmt's source: count such statements apart). THE CARD IS WHAT COUNTS. Prove the row's statement (the work); the ties are given (YtfhgiadogeephaaGreatDoorTie.lean); close each card by the builder's one call (the guide's Derived/Test/ToyasCard.lean, 'card_holds'). Laid BY PROGRAM, IN A SANDBOX (cutbox-door.mjs). By AI agents, Wed Nov 11 2026. No macro, syntax, notation, axiom, sorry.
-/
import Derived.Test.YtfhgiadogeephaaGreatDoorRows
import GoSem.ClaimSeven
namespace Go.Proofs.YtfhgiadogeephaaGreatDoor
namespace Rows

/-- THE TIED CARD OF 'tranchelaw21.ReplayDiffers'. -/
def replayDiffersCard : Claim7 := { stood := { row := replayDiffersRow, standIns := [], harness := (true, "5f504bcc530f562c3817e94d8884b89570d2f449da6aa160c842fad5b9364a51"), looks := true }, kinds := [], alts := [], laidByText := true, laidKinds := [.data, .data, .data, .data, .sentinel, .sentinel, .sentinel, .data, .pinned], laidTests := true, laidLooks := .later }
def ReplayDiffersCardSaid : Prop := Claim7.holds Tryz.pinned (.plain (OpenSpec.ofChange replayDiffersSpec)) replayDiffersCard

/-- THE TIED CARD OF 'tranchelaw21.ReplayAudits'. -/
def replayAuditsCard : Claim7 := { stood := { row := replayAuditsRow, standIns := [], harness := (true, "5f504bcc530f562c3817e94d8884b89570d2f449da6aa160c842fad5b9364a51"), looks := true }, kinds := [], alts := [], laidByText := true, laidKinds := [.data, .data, .data, .data, .sentinel, .sentinel, .sentinel, .data, .pinned], laidTests := true, laidLooks := .later }
def ReplayAuditsCardSaid : Prop := Claim7.holds Tryz.pinned (.plain (OpenSpec.ofChange replayAuditsSpec)) replayAuditsCard

/-- THE SECOND FORM's CARD OF 'tranchelaw21.ReplayDiffers'. -/
def replayDiffersUptoCard : Claim7 := { stood := { row := replayDiffersUptoRow, standIns := [], harness := (true, "5f504bcc530f562c3817e94d8884b89570d2f449da6aa160c842fad5b9364a51"), looks := true }, kinds := [], alts := [], laidByText := true, laidKinds := [.data, .data, .data, .data, .sentinel, .sentinel, .sentinel, .data, .pinned], laidTests := true, laidLooks := .later }
def ReplayDiffersUptoCardSaid : Prop := Claim7.holds Tryz.pinned (.plain (OpenSpec.upto replayDiffersSpec)) replayDiffersUptoCard

/-- THE SECOND FORM's CARD OF 'tranchelaw21.ReplayAudits'. -/
def replayAuditsUptoCard : Claim7 := { stood := { row := replayAuditsUptoRow, standIns := [], harness := (true, "5f504bcc530f562c3817e94d8884b89570d2f449da6aa160c842fad5b9364a51"), looks := true }, kinds := [], alts := [], laidByText := true, laidKinds := [.data, .data, .data, .data, .sentinel, .sentinel, .sentinel, .data, .pinned], laidTests := true, laidLooks := .later }
def ReplayAuditsUptoCardSaid : Prop := Claim7.holds Tryz.pinned (.plain (OpenSpec.upto replayAuditsSpec)) replayAuditsUptoCard
end Rows
end Go.Proofs.YtfhgiadogeephaaGreatDoor
