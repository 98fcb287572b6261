/- A part of the proof of the law ReplayDiffers. CONDITIONS: those that each theorem names. -/
import Derived.Test.YtfhgiadogeephaaGreatDoorRDA
namespace Go.Proofs.YtfhgiadogeephaaGreatDoor
open Go.ChangeShapes Go.WideShapes Go.ChangeAt Go.RowKit Go.Ai
set_option maxRecDepth 100000
theorem closed1 : (Rows.replayDiffersUptoRow.inPlace == Tryz.prog.inPlace 3) = true := by kernel_rfl
end Go.Proofs.YtfhgiadogeephaaGreatDoor

