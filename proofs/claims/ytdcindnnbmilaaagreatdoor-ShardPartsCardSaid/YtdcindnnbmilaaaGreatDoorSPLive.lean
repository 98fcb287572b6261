/- A part of the proof of the law ShardParts. CONDITIONS: those that each theorem names. -/
import Derived.Test.YtdcindnnbmilaaaGreatDoorSP0
namespace Go.Proofs.YtdcindnnbmilaaaGreatDoor
open Go Go.Ai
set_option maxRecDepth 100000
theorem run4 : saysTrue (call Tryz.prog [] X2 2000 200 4 [] ⟨.e, 0⟩) = true := by kernel_rfl
theorem body4 : ∃ c, Tryz.f4.body = some c := Option.isSome_iff_exists.1 (by kernel_rfl)
end Go.Proofs.YtdcindnnbmilaaaGreatDoor
