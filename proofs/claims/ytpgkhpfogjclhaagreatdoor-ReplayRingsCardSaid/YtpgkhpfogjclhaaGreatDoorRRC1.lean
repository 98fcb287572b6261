/- A part of the proof of the law ReplayRings. CONDITIONS: those that each theorem names. -/
import Derived.Test.YtpgkhpfogjclhaaGreatDoorRRB
namespace Go.Proofs.YtpgkhpfogjclhaaGreatDoor
open Go.ChangeShapes Go.WideShapes Go.ChangeAt Go.RowKit Go.Ai
set_option maxRecDepth 100000
theorem card_by : Rows.replayRingsRow.wfByText (OpenSpec.ofChange Rows.replayRingsSpec) = true := by kernel_rfl
theorem card_main : Tryz.pinned.checked.prog.mainIs = some (true, "b97ef83d1ebc82d5d00aaccc41f270844e66da5155dff8213e55a1b52fc08343".toList) := by kernel_rfl
theorem card_looks : true = Tryz.pinned.checked.prog.looks [] := by kernel_rfl
end Go.Proofs.YtpgkhpfogjclhaaGreatDoor
