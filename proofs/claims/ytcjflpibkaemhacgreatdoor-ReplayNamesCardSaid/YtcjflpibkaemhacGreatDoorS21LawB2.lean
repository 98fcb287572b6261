/- A part of the proof of the law ReplayNames. CONDITIONS: those that each theorem names. -/
import Derived.Test.YtcjflpibkaemhacGreatDoorS21LawB1
namespace Go.Proofs.YtcjflpibkaemhacGreatDoor
open Go.ChangeShapes Go.WideShapes Go.ChangeAt Go.RowKit Go.Ai
set_option maxRecDepth 100000
theorem closed2 : (Rows.replayNamesRow.unfollowed == Tryz.prog.unfollowed 3) = true := by kernel_rfl
end Go.Proofs.YtcjflpibkaemhacGreatDoor
