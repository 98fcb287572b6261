/-
  DERIVED. GIVEN WITH THE SEED: THE CARDS: each row of YtneoghpfbgjaiaaGreatDoorRows.lean that lists a variable, with what it lists TIED to the program's text (the seventh form; the later family's looks); each row that meets fmt, with fmt's text TOLD by the authors' own Lean function (tested against real Go, not proved from fmt's source: count such statements apart). THE CARD IS WHAT COUNTS. Prove the row's statement (the work); the ties are given (YtneoghpfbgjaiaaGreatDoorTie.lean); close each card by the builder's one call (the guide's Derived/Test/ToyasCard.lean, 'card_holds'). Laid BY PROGRAM, IN A SANDBOX (cutbox-door.mjs). By AI agents, Wed Nov 11 2026. No macro, syntax, notation, axiom, sorry.
-/
import Derived.Test.YtneoghpfbgjaiaaGreatDoorRows
import GoSem.ClaimSeven
namespace Go.Proofs.YtneoghpfbgjaiaaGreatDoor
namespace Rows

/-- THE TIED CARD OF 'tranchelaw16.ReconDry'. -/
def reconDryCard : Claim7 := { stood := { row := reconDryRow, standIns := [], harness := (true, "80b4b99179f145ad263222eed095838d9d70283aa7e16bbbe2b49efc812f7afc"), looks := true }, kinds := [], alts := [], laidByText := true, laidKinds := [.data, .data, .data, .sentinel, .sentinel], laidTests := true, laidLooks := .later }
def ReconDryCardSaid : Prop := Claim7.holds Tryz.pinned (.plain (OpenSpec.ofChange reconDrySpec)) reconDryCard

/-- THE TIED CARD OF 'tranchelaw16.ReconFresh'. -/
def reconFreshCard : Claim7 := { stood := { row := reconFreshRow, standIns := [], harness := (true, "80b4b99179f145ad263222eed095838d9d70283aa7e16bbbe2b49efc812f7afc"), looks := true }, kinds := [], alts := [], laidByText := true, laidKinds := [.data, .data, .data, .sentinel, .sentinel], laidTests := true, laidLooks := .later }
def ReconFreshCardSaid : Prop := Claim7.holds Tryz.pinned (.plain (OpenSpec.ofChange reconFreshSpec)) reconFreshCard

/-- THE TIED CARD OF 'tranchelaw16.ReconSame'. -/
def reconSameCard : Claim7 := { stood := { row := reconSameRow, standIns := [], harness := (true, "80b4b99179f145ad263222eed095838d9d70283aa7e16bbbe2b49efc812f7afc"), looks := true }, kinds := [], alts := [], laidByText := true, laidKinds := [.data, .data, .data, .sentinel, .sentinel], laidTests := true, laidLooks := .later }
def ReconSameCardSaid : Prop := Claim7.holds Tryz.pinned (.plain (OpenSpec.ofChange reconSameSpec)) reconSameCard

/-- THE TIED CARD OF 'tranchelaw16.ReconScouts'. -/
def reconScoutsCard : Claim7 := { stood := { row := reconScoutsRow, standIns := [], harness := (true, "80b4b99179f145ad263222eed095838d9d70283aa7e16bbbe2b49efc812f7afc"), looks := true }, kinds := [], alts := [], laidByText := true, laidKinds := [.data, .data, .data, .sentinel, .sentinel], laidTests := true, laidLooks := .later }
def ReconScoutsCardSaid : Prop := Claim7.holds Tryz.pinned (.plain (OpenSpec.ofChange reconScoutsSpec)) reconScoutsCard

/-- THE TIED CARD OF 'tranchelaw16.ReconCaches'. -/
def reconCachesCard : Claim7 := { stood := { row := reconCachesRow, standIns := [], harness := (true, "80b4b99179f145ad263222eed095838d9d70283aa7e16bbbe2b49efc812f7afc"), looks := true }, kinds := [], alts := [], laidByText := true, laidKinds := [.data, .data, .data, .sentinel, .sentinel], laidTests := true, laidLooks := .later }
def ReconCachesCardSaid : Prop := Claim7.holds Tryz.pinned (.plain (OpenSpec.ofChange reconCachesSpec)) reconCachesCard

/-- THE TIED CARD OF 'tranchelaw16.ReconNil'. -/
def reconNilCard : Claim7 := { stood := { row := reconNilRow, standIns := [], harness := (true, "80b4b99179f145ad263222eed095838d9d70283aa7e16bbbe2b49efc812f7afc"), looks := true }, kinds := [], alts := [], laidByText := true, laidKinds := [.data, .data, .data, .sentinel, .sentinel], laidTests := true, laidLooks := .later }
def ReconNilCardSaid : Prop := Claim7.holds Tryz.pinned (.plain (OpenSpec.ofChange reconNilSpec)) reconNilCard

/-- THE TIED CARD OF 'tranchelaw16.ReconUntouched'. -/
def reconUntouchedCard : Claim7 := { stood := { row := reconUntouchedRow, standIns := [], harness := (true, "80b4b99179f145ad263222eed095838d9d70283aa7e16bbbe2b49efc812f7afc"), looks := true }, kinds := [], alts := [], laidByText := true, laidKinds := [.data, .data, .data, .sentinel, .sentinel], laidTests := true, laidLooks := .later }
def ReconUntouchedCardSaid : Prop := Claim7.holds Tryz.pinned (.plain (OpenSpec.ofChange reconUntouchedSpec)) reconUntouchedCard

/-- THE TIED CARD OF 'tranchelaw16.ReconFreshly'. -/
def reconFreshlyCard : Claim7 := { stood := { row := reconFreshlyRow, standIns := [], harness := (true, "80b4b99179f145ad263222eed095838d9d70283aa7e16bbbe2b49efc812f7afc"), looks := true }, kinds := [], alts := [], laidByText := true, laidKinds := [.data, .data, .data, .sentinel, .sentinel], laidTests := true, laidLooks := .later }
def ReconFreshlyCardSaid : Prop := Claim7.holds Tryz.pinned (.plain (OpenSpec.ofChange reconFreshlySpec)) reconFreshlyCard

/-- THE SECOND FORM's CARD OF 'tranchelaw16.ReconDry'. -/
def reconDryUptoCard : Claim7 := { stood := { row := reconDryUptoRow, standIns := [], harness := (true, "80b4b99179f145ad263222eed095838d9d70283aa7e16bbbe2b49efc812f7afc"), looks := true }, kinds := [], alts := [], laidByText := true, laidKinds := [.data, .data, .data, .sentinel, .sentinel], laidTests := true, laidLooks := .later }
def ReconDryUptoCardSaid : Prop := Claim7.holds Tryz.pinned (.plain (OpenSpec.upto reconDrySpec)) reconDryUptoCard

/-- THE SECOND FORM's CARD OF 'tranchelaw16.ReconFresh'. -/
def reconFreshUptoCard : Claim7 := { stood := { row := reconFreshUptoRow, standIns := [], harness := (true, "80b4b99179f145ad263222eed095838d9d70283aa7e16bbbe2b49efc812f7afc"), looks := true }, kinds := [], alts := [], laidByText := true, laidKinds := [.data, .data, .data, .sentinel, .sentinel], laidTests := true, laidLooks := .later }
def ReconFreshUptoCardSaid : Prop := Claim7.holds Tryz.pinned (.plain (OpenSpec.upto reconFreshSpec)) reconFreshUptoCard

/-- THE SECOND FORM's CARD OF 'tranchelaw16.ReconSame'. -/
def reconSameUptoCard : Claim7 := { stood := { row := reconSameUptoRow, standIns := [], harness := (true, "80b4b99179f145ad263222eed095838d9d70283aa7e16bbbe2b49efc812f7afc"), looks := true }, kinds := [], alts := [], laidByText := true, laidKinds := [.data, .data, .data, .sentinel, .sentinel], laidTests := true, laidLooks := .later }
def ReconSameUptoCardSaid : Prop := Claim7.holds Tryz.pinned (.plain (OpenSpec.upto reconSameSpec)) reconSameUptoCard

/-- THE SECOND FORM's CARD OF 'tranchelaw16.ReconScouts'. -/
def reconScoutsUptoCard : Claim7 := { stood := { row := reconScoutsUptoRow, standIns := [], harness := (true, "80b4b99179f145ad263222eed095838d9d70283aa7e16bbbe2b49efc812f7afc"), looks := true }, kinds := [], alts := [], laidByText := true, laidKinds := [.data, .data, .data, .sentinel, .sentinel], laidTests := true, laidLooks := .later }
def ReconScoutsUptoCardSaid : Prop := Claim7.holds Tryz.pinned (.plain (OpenSpec.upto reconScoutsSpec)) reconScoutsUptoCard

/-- THE SECOND FORM's CARD OF 'tranchelaw16.ReconCaches'. -/
def reconCachesUptoCard : Claim7 := { stood := { row := reconCachesUptoRow, standIns := [], harness := (true, "80b4b99179f145ad263222eed095838d9d70283aa7e16bbbe2b49efc812f7afc"), looks := true }, kinds := [], alts := [], laidByText := true, laidKinds := [.data, .data, .data, .sentinel, .sentinel], laidTests := true, laidLooks := .later }
def ReconCachesUptoCardSaid : Prop := Claim7.holds Tryz.pinned (.plain (OpenSpec.upto reconCachesSpec)) reconCachesUptoCard

/-- THE SECOND FORM's CARD OF 'tranchelaw16.ReconNil'. -/
def reconNilUptoCard : Claim7 := { stood := { row := reconNilUptoRow, standIns := [], harness := (true, "80b4b99179f145ad263222eed095838d9d70283aa7e16bbbe2b49efc812f7afc"), looks := true }, kinds := [], alts := [], laidByText := true, laidKinds := [.data, .data, .data, .sentinel, .sentinel], laidTests := true, laidLooks := .later }
def ReconNilUptoCardSaid : Prop := Claim7.holds Tryz.pinned (.plain (OpenSpec.upto reconNilSpec)) reconNilUptoCard

/-- THE SECOND FORM's CARD OF 'tranchelaw16.ReconUntouched'. -/
def reconUntouchedUptoCard : Claim7 := { stood := { row := reconUntouchedUptoRow, standIns := [], harness := (true, "80b4b99179f145ad263222eed095838d9d70283aa7e16bbbe2b49efc812f7afc"), looks := true }, kinds := [], alts := [], laidByText := true, laidKinds := [.data, .data, .data, .sentinel, .sentinel], laidTests := true, laidLooks := .later }
def ReconUntouchedUptoCardSaid : Prop := Claim7.holds Tryz.pinned (.plain (OpenSpec.upto reconUntouchedSpec)) reconUntouchedUptoCard

/-- THE SECOND FORM's CARD OF 'tranchelaw16.ReconFreshly'. -/
def reconFreshlyUptoCard : Claim7 := { stood := { row := reconFreshlyUptoRow, standIns := [], harness := (true, "80b4b99179f145ad263222eed095838d9d70283aa7e16bbbe2b49efc812f7afc"), looks := true }, kinds := [], alts := [], laidByText := true, laidKinds := [.data, .data, .data, .sentinel, .sentinel], laidTests := true, laidLooks := .later }
def ReconFreshlyUptoCardSaid : Prop := Claim7.holds Tryz.pinned (.plain (OpenSpec.upto reconFreshlySpec)) reconFreshlyUptoCard
end Rows
end Go.Proofs.YtneoghpfbgjaiaaGreatDoor
