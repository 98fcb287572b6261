/- A part of the proof of the law ReplayAudits. CONDITIONS: those that each theorem names. -/
import Derived.Test.YtfhgiadogeephaaGreatDoorRAB1
namespace Go.Proofs.YtfhgiadogeephaaGreatDoor
open Go.ChangeShapes Go.WideShapes Go.ChangeAt Go.RowKit Go.Ai
set_option maxRecDepth 100000
theorem closed2 : (Rows.replayAuditsUptoRow.unfollowed == Tryz.prog.unfollowed 4) = true := by kernel_rfl
end Go.Proofs.YtfhgiadogeephaaGreatDoor

