/- A part of the proof of the law ReconFresh. CONDITIONS: those that each theorem names. -/
import Derived.Test.YtneoghpfbgjaiaaGreatDoorS16FrC1
namespace Go.Proofs.YtneoghpfbgjaiaaGreatDoor
open Go.ChangeShapes Go.WideShapes Go.ChangeAt Go.RowKit Go.Ai
set_option maxRecDepth 100000
theorem card_goes : false = Rows.reconFreshRow.goesBy Tryz.pinned.checked.prog := by kernel_rfl
end Go.Proofs.YtneoghpfbgjaiaaGreatDoor
