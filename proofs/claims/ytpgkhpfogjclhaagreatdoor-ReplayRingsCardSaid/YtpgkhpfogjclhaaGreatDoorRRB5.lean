/- A part of the proof of the law ReplayRings. CONDITIONS: those that each theorem names. -/
import Derived.Test.YtpgkhpfogjclhaaGreatDoorRRB4
namespace Go.Proofs.YtpgkhpfogjclhaaGreatDoor
open Go.ChangeShapes Go.WideShapes Go.ChangeAt Go.RowKit Go.Ai
set_option maxRecDepth 100000
theorem law_named : Tryz.prog.funcNamed Rows.replayRingsRow.func = some 4 := by kernel_rfl
theorem closed5 : (Rows.replayRingsRow.wf (OpenSpec.ofChange Rows.replayRingsSpec) && laidOutB Tryz.prog && mapsRowed Tryz.prog) = true := by kernel_rfl
theorem closed6 : (Tryz.f4.params.all (Tryz.prog.readableRec ·) && namedTie Tryz.prog Rows.replayRingsRow.named Rows.replayRingsSpec.vars) = true := by kernel_rfl
theorem closed7 : ((Rows.replayRingsRow.stops == []) && (Tryz.prog.stops == []) && (Rows.replayRingsRow.knobs == []) && (Tryz.prog.stopKnobs == [])) = true := by kernel_rfl
end Go.Proofs.YtpgkhpfogjclhaaGreatDoor
