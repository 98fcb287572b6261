/- A part of the proof of the law ReplayRings. CONDITIONS: those that each theorem names. -/
import Derived.Test.YtpgkhpfogjclhaaGreatDoorSR
namespace Go.Proofs.YtpgkhpfogjclhaaGreatDoor
open Go Go.Ai
set_option maxRecDepth 100000
theorem run6 : saysTrue (call Tryz.prog [] X2 2000 200 6 [] ⟨.e, 0⟩) = true := by kernel_rfl
theorem body6 : ∃ c, Tryz.f6.body = some c := Option.isSome_iff_exists.1 (by kernel_rfl)
end Go.Proofs.YtpgkhpfogjclhaaGreatDoor
