/- A part of the proof of the law ReconNil: the closed run and what the row wants of it. CONDITIONS: none. -/
import Derived.Test.YtneoghpfbgjaiaaGreatDoorSeat16
namespace Go.Proofs.YtneoghpfbgjaiaaGreatDoor
open Go Go.Ai
set_option maxRecDepth 100000
theorem run8 : saysTrue (call Tryz.prog [] X2 2000 200 8 [] ⟨.e, 0⟩) = true := by kernel_rfl
end Go.Proofs.YtneoghpfbgjaiaaGreatDoor
