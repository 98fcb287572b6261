/- A part of the proof of the law ReconFresh. CONDITIONS: those that each theorem names. -/
import Derived.Test.YtneoghpfbgjaiaaGreatDoorS16FrB3
namespace Go.Proofs.YtneoghpfbgjaiaaGreatDoor
open Go.ChangeShapes Go.WideShapes Go.ChangeAt Go.RowKit Go.Ai
set_option maxRecDepth 100000
theorem closed4 : (Rows.reconFreshRow.named == Tryz.prog.varsNamed 4) = true := by kernel_rfl
end Go.Proofs.YtneoghpfbgjaiaaGreatDoor
