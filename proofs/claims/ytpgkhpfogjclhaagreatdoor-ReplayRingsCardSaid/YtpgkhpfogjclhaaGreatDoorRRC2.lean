/- A part of the proof of the law ReplayRings. CONDITIONS: those that each theorem names. -/
import Derived.Test.YtpgkhpfogjclhaaGreatDoorRRC1
namespace Go.Proofs.YtpgkhpfogjclhaaGreatDoor
open Go.ChangeShapes Go.WideShapes Go.ChangeAt Go.RowKit Go.Ai
set_option maxRecDepth 100000
theorem card_goes : false = Rows.replayRingsRow.goesBy Tryz.pinned.checked.prog := by kernel_rfl
end Go.Proofs.YtpgkhpfogjclhaaGreatDoor
