/- A part of the proof of the law ReconFresh. CONDITIONS: those that each theorem names. -/
import Derived.Test.YtneoghpfbgjaiaaGreatDoorS16
namespace Go.Proofs.YtneoghpfbgjaiaaGreatDoor
open Go Go.Ai
set_option maxRecDepth 100000
theorem run12 : saysTrue (call Tryz.prog [] X2 2000 200 12 [] ⟨.e, 0⟩) = true := by kernel_rfl
theorem body12 : ∃ c, Tryz.f12.body = some c := Option.isSome_iff_exists.1 (by kernel_rfl)
end Go.Proofs.YtneoghpfbgjaiaaGreatDoor
