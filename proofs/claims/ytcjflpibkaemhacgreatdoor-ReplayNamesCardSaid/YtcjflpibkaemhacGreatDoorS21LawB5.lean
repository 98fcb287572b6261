/- A part of the proof of the law ReplayNames. CONDITIONS: those that each theorem names. -/
import Derived.Test.YtcjflpibkaemhacGreatDoorS21LawB4
namespace Go.Proofs.YtcjflpibkaemhacGreatDoor
open Go.ChangeShapes Go.WideShapes Go.ChangeAt Go.RowKit Go.Ai
set_option maxRecDepth 100000
theorem law_named : Tryz.prog.funcNamed Rows.replayNamesRow.func = some 3 := by kernel_rfl
theorem closed5 : (Rows.replayNamesRow.wf (OpenSpec.ofChange Rows.replayNamesSpec) && laidOutB Tryz.prog && mapsRowed Tryz.prog) = true := by kernel_rfl
theorem closed6 : (Tryz.f3.params.all (Tryz.prog.readableRec ·) && namedTie Tryz.prog Rows.replayNamesRow.named Rows.replayNamesSpec.vars) = true := by kernel_rfl
theorem closed7 : ((Rows.replayNamesRow.stops == []) && (Tryz.prog.stops == []) && (Rows.replayNamesRow.knobs == []) && (Tryz.prog.stopKnobs == [])) = true := by kernel_rfl
end Go.Proofs.YtcjflpibkaemhacGreatDoor
