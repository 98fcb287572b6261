/- A part of the proof of the law ReconCaches. CONDITIONS: those that each theorem names. -/
import Derived.Test.YtmnhaoadhkdinaaGreatDoorRCA
namespace Go.Proofs.YtmnhaoadhkdinaaGreatDoor
open Go.ChangeShapes Go.WideShapes Go.ChangeAt Go.RowKit Go.Ai
set_option maxRecDepth 100000
theorem closed1 : (Rows.reconCachesUptoRow.inPlace == Tryz.prog.inPlace 3) = true := by kernel_rfl
end Go.Proofs.YtmnhaoadhkdinaaGreatDoor

