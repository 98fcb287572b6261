/- A part of the proof of the law ReplayAudits. CONDITIONS: those that each theorem names. -/
import Derived.Test.YtfhgiadogeephaaGreatDoorRAB2
namespace Go.Proofs.YtfhgiadogeephaaGreatDoor
open Go.ChangeShapes Go.WideShapes Go.ChangeAt Go.RowKit Go.Ai
set_option maxRecDepth 100000
theorem closed3 : (Rows.replayAuditsUptoRow.recurses == Tryz.prog.recurses 4) = true := by kernel_rfl
end Go.Proofs.YtfhgiadogeephaaGreatDoor

