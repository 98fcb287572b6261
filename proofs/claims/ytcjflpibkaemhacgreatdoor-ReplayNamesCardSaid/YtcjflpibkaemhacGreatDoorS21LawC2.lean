/- A part of the proof of the law ReplayNames. CONDITIONS: those that each theorem names. -/
import Derived.Test.YtcjflpibkaemhacGreatDoorS21LawC1
namespace Go.Proofs.YtcjflpibkaemhacGreatDoor
open Go.ChangeShapes Go.WideShapes Go.ChangeAt Go.RowKit Go.Ai
set_option maxRecDepth 100000
theorem card_goes : false = Rows.replayNamesRow.goesBy Tryz.pinned.checked.prog := by kernel_rfl
end Go.Proofs.YtcjflpibkaemhacGreatDoor
