/- A part of the proof of the law ReplayDiffers. CONDITIONS: those that each theorem names. -/
import Derived.Test.YtfhgiadogeephaaGreatDoorRDB4
namespace Go.Proofs.YtfhgiadogeephaaGreatDoor
open Go.ChangeShapes Go.WideShapes Go.ChangeAt Go.RowKit Go.Ai
set_option maxRecDepth 100000
theorem law_named : Tryz.prog.funcNamed Rows.replayDiffersUptoRow.func = some 3 := by kernel_rfl
theorem closed5 : (Rows.replayDiffersUptoRow.wf (OpenSpec.ofChange (Rows.OpenSpec.upto Rows.replayDiffersSpec).bare) && laidOutB Tryz.prog && mapsRowed Tryz.prog) = true := by kernel_rfl
theorem closed6 : (Tryz.f3.params.all (Tryz.prog.readableRec ·) && namedTie Tryz.prog Rows.replayDiffersUptoRow.named (Rows.OpenSpec.upto Rows.replayDiffersSpec).bare.vars) = true := by kernel_rfl
theorem closed7 : ((Rows.replayDiffersUptoRow.stops == []) && (Tryz.prog.stops == []) && (Rows.replayDiffersUptoRow.knobs == []) && (Tryz.prog.stopKnobs == [])) = true := by kernel_rfl
end Go.Proofs.YtfhgiadogeephaaGreatDoor

