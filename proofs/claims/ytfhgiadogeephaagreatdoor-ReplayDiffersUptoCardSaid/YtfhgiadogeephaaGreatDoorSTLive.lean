/- A part of the proof of the law ReplayDiffers. CONDITIONS: those that each theorem names. -/
import Derived.Test.YtfhgiadogeephaaGreatDoorPartA
namespace Go.Proofs.YtfhgiadogeephaaGreatDoor
open Go Go.Ai
set_option maxRecDepth 100000
theorem run5 : saysTrue (call Tryz.prog [] X2 2000 200 5 [] ⟨.e, 0⟩) = true := by kernel_rfl
theorem body5 : ∃ c, Tryz.f5.body = some c := Option.isSome_iff_exists.1 (by kernel_rfl)
end Go.Proofs.YtfhgiadogeephaaGreatDoor

