/- A part of the proof of the law ReplayNames. CONDITIONS: those that each theorem names. -/
import Derived.Test.YtcjflpibkaemhacGreatDoorS21LawB
namespace Go.Proofs.YtcjflpibkaemhacGreatDoor
open Go.ChangeShapes Go.WideShapes Go.ChangeAt Go.RowKit Go.Ai
set_option maxRecDepth 100000
theorem card_by : Rows.replayNamesRow.wfByText (OpenSpec.ofChange Rows.replayNamesSpec) = true := by kernel_rfl
theorem card_main : Tryz.pinned.checked.prog.mainIs = some (true, "6e558759661c0bd46dabc960cd5febc1106f0ed6227296bb771b4292a63359b7".toList) := by kernel_rfl
theorem card_looks : true = Tryz.pinned.checked.prog.looks [] := by kernel_rfl
end Go.Proofs.YtcjflpibkaemhacGreatDoor
