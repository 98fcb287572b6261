/- A part of the proof of the law ReconFresh. CONDITIONS: those that each theorem names. -/
import Derived.Test.YtneoghpfbgjaiaaGreatDoorS16FrB2
namespace Go.Proofs.YtneoghpfbgjaiaaGreatDoor
open Go.ChangeShapes Go.WideShapes Go.ChangeAt Go.RowKit Go.Ai
set_option maxRecDepth 100000
theorem closed3 : (Rows.reconFreshRow.recurses == Tryz.prog.recurses 4) = true := by kernel_rfl
end Go.Proofs.YtneoghpfbgjaiaaGreatDoor
