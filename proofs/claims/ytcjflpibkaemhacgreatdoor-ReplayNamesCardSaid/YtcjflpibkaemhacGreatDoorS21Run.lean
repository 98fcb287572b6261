/- A part of the proof of the law ReplayNames. CONDITIONS: those that each theorem names. -/
import Derived.Test.YtcjflpibkaemhacGreatDoorS21
namespace Go.Proofs.YtcjflpibkaemhacGreatDoor
open Go Go.Ai
set_option maxRecDepth 100000
theorem run3 : saysTrue (call Tryz.prog [] X2 2000 200 3 [] ⟨.e, 0⟩) = true := by kernel_rfl
end Go.Proofs.YtcjflpibkaemhacGreatDoor
